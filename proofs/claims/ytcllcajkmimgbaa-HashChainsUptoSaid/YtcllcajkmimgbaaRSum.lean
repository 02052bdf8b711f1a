/-
  sum of the document's hash: for every text that is not enormous, with the numbers K, the call returns the sum.
-/
import Derived.Test.YtcllcajkmimgbaaRKeyl
import Derived.Deep.RegionHeld3
import Derived.Deep.CutBlock
set_option linter.unusedVariables false
set_option maxRecDepth 100000
namespace Go.Proofs.Ytcllcajkmimgbaa.RH
open Go.RowKit Base HH
/-- the padded text -/
def padL (l : List UInt8) : List UInt8 := l ++ Sha.pad l.length
def padZ (l : List UInt8) (z : Nat) : List UInt8 := l ++ (128 :: List.replicate z 0)
theorem padZ_length (l : List UInt8) (z : Nat) : (padZ l z).length = l.length + (1 + z) := by
  unfold padZ
  rw [List.length_append, List.length_cons, List.length_replicate]
  omega
theorem padZ_succ (l : List UInt8) (z : Nat) : padZ l z ++ [0] = padZ l (z + 1) := by
  unfold padZ
  rw [List.append_assoc, List.cons_append, ← List.replicate_succ']
theorem be8_split (n : Nat) (h : n < 18446744073709551616) : Sha.be8 n = Sha.w4 (BitVec.ofNat 32 (n / 4294967296)) ++ Sha.w4 (BitVec.ofNat 32 n) := by
  rw [← w4_big, ← w4_big]
  show [b8 n 7, b8 n 6, b8 n 5, b8 n 4, b8 n 3, b8 n 2, b8 n 1, b8 n 0] = [b8 _ 3, b8 _ 2, b8 _ 1, b8 _ 0] ++ [b8 _ 3, b8 _ 2, b8 _ 1, b8 _ 0]
  rw [BitVec.toNat_ofNat, BitVec.toNat_ofNat]
  unfold b8
  have k1 : n / 4294967296 % 2 ^ 32 = n / 4294967296 := Nat.mod_eq_of_lt (by omega)
  rw [k1]
  have e7 : n / 256 ^ 7 % 256 = n / 4294967296 / 256 ^ 3 % 256 := by omega
  have e6 : n / 256 ^ 6 % 256 = n / 4294967296 / 256 ^ 2 % 256 := by omega
  have e5 : n / 256 ^ 5 % 256 = n / 4294967296 / 256 ^ 1 % 256 := by omega
  have e4 : n / 256 ^ 4 % 256 = n / 4294967296 / 256 ^ 0 % 256 := by omega
  have e3 : n / 256 ^ 3 % 256 = n % 2 ^ 32 / 256 ^ 3 % 256 := by omega
  have e2 : n / 256 ^ 2 % 256 = n % 2 ^ 32 / 256 ^ 2 % 256 := by omega
  have e1 : n / 256 ^ 1 % 256 = n % 2 ^ 32 / 256 ^ 1 % 256 := by omega
  have e0 : n / 256 ^ 0 % 256 = n % 2 ^ 32 / 256 ^ 0 % 256 := by omega
  rw [e7, e6, e5, e4, e3, e2, e1, e0]
  rfl
theorem padZ_pad (l : List UInt8) (h : 8 * l.length < 18446744073709551616) : padZ l (Sha.noughts l.length) ++ Sha.w4 (BitVec.ofNat 32 (8 * l.length / 4294967296)) ++ Sha.w4 (BitVec.ofNat 32 (8 * l.length)) = padL l := by
  unfold padZ padL Sha.pad
  rw [be8_split _ h]
  simp only [List.append_assoc, List.cons_append]
theorem padL_length (l : List UInt8) : (padL l).length = l.length + (1 + Sha.noughts l.length) + 8 := by
  unfold padL
  rw [List.length_append, pad_length]
  omega
theorem one_news (w : World) (c : UInt8) (v : Value) (h : v = bv c) : ∀ j u, (([c] : List UInt8).map bv)[j]? = some u → (w.alloc (.cells #[v] 5)).cell? ((⟨w.heap.size, 0, none⟩ : Addr).add j) = some u := by
  subst h
  exact cell_one_new w (bv c) 5
theorem own_blk {g n c q : Nat} (e : (Value.slice (some ⟨g, 0, none⟩) n c).ownBlock = some q) : g = q := Option.some.inj e
theorem DigIn.set_ {w : World} {g gp len : Nat} {xs : List Nat} (h : DigIn w ⟨gp, 0, none⟩ len xs) (hne : g ≠ gp) (j : Nat) (v : Value) : DigIn (w.setCell ⟨g, j, none⟩ v) ⟨gp, 0, none⟩ len xs :=
  ⟨h.1, by simp only [World.setCell, Array.size_modify]; exact h.2.1, fun k hk => by
    rw [← h.2.2 k hk]
    exact World.cell?_of_block (Below.heap_setCell w ⟨g, j, none⟩ v _ (by rw [add_blk]; exact fun e => hne e.symm))⟩
theorem getD_b {l : List UInt8} {j : Nat} (h : j < l.length) : l.getD j 0 = l[j] := by
  rw [List.getD_eq_getElem?_getD, List.getElem?_eq_getElem h]
  rfl
theorem n64_nat {X : BitVec 64} {c : UInt8} (h : X.toNat < 256 ^ 7) : (n64 X c).toNat = X.toNat * 256 + c.toNat := by
  have hc : c.toNat < 256 := c.toNat_lt
  unfold n64
  have e1 : (X <<< 8).toNat = X.toNat * 256 := by
    rw [BitVec.toNat_shiftLeft, Nat.shiftLeft_eq]
    omega
  have e2 : (c.toBitVec.setWidth 64).toNat = c.toNat := by
    rw [BitVec.toNat_setWidth]
    show c.toNat % 2 ^ 64 = c.toNat
    omega
  rw [BitVec.toNat_or, e1, e2, Nat.mul_comm X.toNat 256, show (256 : Nat) = 2 ^ 8 from rfl]
  exact (Nat.two_pow_add_eq_or_of_lt (i := 8) (b := c.toNat) hc X.toNat).symm
theorem be4_nat (a b c d : UInt8) : (Sha.be4 [a, b, c, d]).toNat = ((a.toNat * 256 + b.toNat) * 256 + c.toNat) * 256 + d.toNat := by
  have ha : a.toNat < 256 := a.toNat_lt
  have hb : b.toNat < 256 := b.toNat_lt
  have hc : c.toNat < 256 := c.toNat_lt
  have hd : d.toNat < 256 := d.toNat_lt
  rw [← be4_num, BitVec.toNat_setWidth]
  show (n64 (n64 (n64 (n64 0#64 a) b) c) d).toNat % 2 ^ 32 = _
  have z : (0#64 : BitVec 64).toNat = 0 := rfl
  have h1 : (n64 0#64 a).toNat = a.toNat := by rw [n64_nat (by rw [z]; decide), z]; omega
  have h2 : (n64 (n64 0#64 a) b).toNat = a.toNat * 256 + b.toNat := by rw [n64_nat (by rw [h1]; omega), h1]
  have h3 : (n64 (n64 (n64 0#64 a) b) c).toNat = (a.toNat * 256 + b.toNat) * 256 + c.toNat := by rw [n64_nat (by rw [h2]; omega), h2]
  rw [n64_nat (by rw [h3]; omega), h3]
  omega
theorem be4_or (a b c d : UInt8) : Value.int .u32 (bits .or .u32 (bits .or .u32 (bits .or .u32 ((a.toNat : Int) * 16777216) ((b.toNat : Int) * 65536)) ((c.toNat : Int) * 256)) (d.toNat : Int)) = w32 (Sha.be4 [a, b, c, d]) := by
  have ha : a.toNat < 256 := a.toNat_lt
  have hb : b.toNat < 256 := b.toNat_lt
  have hc : c.toNat < 256 := c.toNat_lt
  have hd : d.toNat < 256 := d.toNat_lt
  have e1 : a.toNat * 16777216 ||| b.toNat * 65536 = a.toNat * 16777216 + b.toNat * 65536 := by
    have := Nat.two_pow_add_eq_or_of_lt (i := 24) (b := b.toNat * 65536) (by omega) a.toNat
    rw [Nat.mul_comm a.toNat 16777216, show (16777216 : Nat) = 2 ^ 24 from rfl]
    exact this.symm
  have e2 : (a.toNat * 16777216 + b.toNat * 65536) ||| c.toNat * 256 = a.toNat * 16777216 + b.toNat * 65536 + c.toNat * 256 := by
    have := Nat.two_pow_add_eq_or_of_lt (i := 16) (b := c.toNat * 256) (by omega) (a.toNat * 256 + b.toNat)
    rw [show a.toNat * 16777216 + b.toNat * 65536 = 2 ^ 16 * (a.toNat * 256 + b.toNat) from by omega]
    exact this.symm
  have e3 : (a.toNat * 16777216 + b.toNat * 65536 + c.toNat * 256) ||| d.toNat = a.toNat * 16777216 + b.toNat * 65536 + c.toNat * 256 + d.toNat := by
    have := Nat.two_pow_add_eq_or_of_lt (i := 8) (b := d.toNat) hd ((a.toNat * 256 + b.toNat) * 256 + c.toNat)
    rw [show a.toNat * 16777216 + b.toNat * 65536 + c.toNat * 256 = 2 ^ 8 * ((a.toNat * 256 + b.toNat) * 256 + c.toNat) from by omega]
    exact this.symm
  unfold w32
  congr 1
  rw [show (a.toNat : Int) * 16777216 = ((a.toNat * 16777216 : Nat) : Int) from by omega, show (b.toNat : Int) * 65536 = ((b.toNat * 65536 : Nat) : Int) from by omega, show (c.toNat : Int) * 256 = ((c.toNat * 256 : Nat) : Int) from by omega]
  rw [u32_or_nat _ _ (by omega) (by omega), e1, u32_or_nat _ _ (by omega) (by omega), e2, u32_or_nat _ _ (by omega) (by omega), e3, be4_nat]
  omega
def lenV : Value → Nat
  | .slice _ m _ => m
  | _ => 0
theorem blk_bytes {L : List UInt8} {m : Nat} (h : 64 * m + 64 ≤ L.length) {j : Nat} (hj : j < 64) : ((L.drop (64 * m)).take 64).getD j 0 = L.getD (64 * m + j) 0 := by
  rw [List.getD_eq_getElem?_getD, List.getD_eq_getElem?_getD, List.getElem?_take, if_pos hj, List.getElem?_drop]
theorem four_news {w : World} {g : Nat} {x : BitVec 32} (h : Row w g 5 ((Sha.w4 x).map bv)) : ∀ j u, ((Sha.w4 x).map bv)[j]? = some u → w.cell? ((⟨g, 0, none⟩ : Addr).add j) = some u := fun j u hj => by
  rw [Addr.add_mid, Nat.zero_add]
  exact h.cell hj
theorem four_v {x : BitVec 32} {xi : Int} (hx : Hid (xi = (x.toNat : Int))) (w : World) : Calls Try.prog 32 #[.int .u32 xi] w fun e w' => e = .returned (.slice (some ⟨w.heap.size, 0, none⟩) 4 4) ∧ Row w' w.heap.size 5 ((Sha.w4 x).map bv) ∧ Below w.heap.size w w' := by
  rw [hx.out]
  exact four_any x w
theorem rror_v (x : BitVec 32) (n : Nat) {ni : Int} (hn : Hid (ni = (n : Int))) (h0 : 0 < n) (h1 : n < 32) (w : World) : Calls Try.prog 35 #[.int .u32 (x.toNat : Int), .int .i64 ni] w fun e w' => e = .returned (.int .u32 ((Sha.ror x n).toNat : Int)) ∧ ∃ m, w' = w.drewN m := by
  rw [hn.out]
  exact rror_any x n h0 h1 w
/-- the words of a state, in a block that was there -/
def Row8 (w : World) (g : Nat) (x : Sha.St) : Prop := g < w.heap.size ∧ ∀ j, j < 8 → w.cell? ⟨g, j, none⟩ = some (.int .u32 ((stg x j).toNat : Int))
theorem Row8.drewN {w : World} {g : Nat} {x : Sha.St} (h : Row8 w g x) (n : Nat) : Row8 (w.drewN n) g x := h
theorem Row8.drew {w : World} {g : Nat} {x : Sha.St} (h : Row8 w g x) : Row8 w.drew g x := h
theorem Row8.alloc {w : World} {g : Nat} {x : Sha.St} (h : Row8 w g x) (o : Obj) : Row8 (w.alloc o) g x :=
  ⟨by rw [World.size_alloc]; have := h.1; omega, fun j hj => (((Below.refl w.heap.size w).alloc (Nat.le_refl _) o).cell (p := ⟨g, j, none⟩) h.1).trans (h.2 j hj)⟩
theorem Row8.of_row {w : World} {g : Nat} {t : TypeId} {x : Sha.St} (h : Row w g t (stA x).toList) : Row8 w g x := ⟨h.lt, fun j hj => h.cell (stA_at x hj)⟩
theorem Row8.other {w : World} {g b o : Nat} {x : Sha.St} (h : Row8 w g x) (hne : b ≠ g) (v : Value) : Row8 (w.setCell ⟨b, o, none⟩ v) g x :=
  ⟨by simp only [World.setCell, Array.size_modify]; exact h.1, fun j hj => by
    rw [← h.2 j hj]
    exact World.cell?_of_block (Below.heap_setCell w ⟨b, o, none⟩ v _ (fun e => hne e.symm))⟩
theorem add_comm' (a b : Sha.St) : Sha.add a b = Sha.add b a := by
  unfold Sha.add
  simp only [BitVec.add_comm]
theorem stA_one (st : Sha.St) : ∀ v ∈ (stA st).toList, v.oneCell' = true := by
  intro v hv
  simp [stA] at hv
  rcases hv with rfl | rfl | rfl | rfl | rfl | rfl | rfl | rfl <;> rfl
theorem Row8.fresh (w : World) (x : Sha.St) (t : TypeId) : Row8 (w.alloc (.cells (stA x) t)) w.heap.size x := Row8.of_row (t := t) (by
  have := Row.new w (stA x).toList t
  rwa [Array.toArray_toList] at this)
theorem new_word' (a b c d : BitVec 32) : Value.int .u32 ((((↑(BitVec.toNat a) +
                      bits BinOp.xor IntKind.u32 (bits BinOp.xor IntKind.u32 ↑(BitVec.toNat (Sha.ror b 7)) ↑(BitVec.toNat (Sha.ror b 18))) (↑(BitVec.toNat b) / 8)) % 4294967296 +
                    ↑(BitVec.toNat c)) % 4294967296 +
                  bits BinOp.xor IntKind.u32 (bits BinOp.xor IntKind.u32 ↑(BitVec.toNat (Sha.ror d 17)) ↑(BitVec.toNat (Sha.ror d 19))) (↑(BitVec.toNat d) / 1024)) % 4294967296) = w32 (a + Sha.sg0 b + c + Sha.sg1 d) := by
  rw [← new_word]
  congr 1
  omega
theorem cell_ne {w : World} {g i j : Nat} {v u : Value} (hij : i ≠ j) (h : w.cell? ⟨g, j, none⟩ = some u) : (w.setCell ⟨g, i, none⟩ v).cell? ⟨g, j, none⟩ = some u :=
  (World.cell?_setCell_other w _ _ _ (by intro e; injection e with e1 e2; exact hij e2)).trans h
def stC (k : Nat) : List Value := (List.range 8).map fun i => w32 (if i < k then stg Sha.iv i else 0#32)
theorem stC_set (k : Nat) : ∀ k, k < 8 → (stC k).set k (w32 (stg Sha.iv k)) = stC (k + 1) := by
  intro k hk
  rcases (by omega : k = 0 ∨ k = 1 ∨ k = 2 ∨ k = 3 ∨ k = 4 ∨ k = 5 ∨ k = 6 ∨ k = 7) with rfl | rfl | rfl | rfl | rfl | rfl | rfl | rfl <;> rfl
theorem stC_old {k : Nat} (h : k < 8) : (stC k)[k]? = some (.int .u32 0) := by
  rcases (by omega : k = 0 ∨ k = 1 ∨ k = 2 ∨ k = 3 ∨ k = 4 ∨ k = 5 ∨ k = 6 ∨ k = 7) with rfl | rfl | rfl | rfl | rfl | rfl | rfl | rfl <;> rfl
theorem stC_all : stC 8 = (stA Sha.iv).toList := rfl
set_option maxHeartbeats 20000000 in
theorem rsum_any {w : World} {s : ByteArray} {kg kcap : Nat} (hs : s.size ≤ 140737488360000) (hK : KeyIn w kg) {t : ByteArray} (ht : Hid (str (Sha.sha s.data.toList) = t)) :
    Calls Try.prog 25 #[.string s, .slice (some ⟨kg, 0, none⟩) 64 kcap] w fun e w' => e = .returned (.string t) ∧ Below w.heap.size w w' := by
  obtain ⟨i0, hi, hz0, hz1, hz2⟩ := info_parts infoU32
  obtain ⟨c0, w1, hcv, hF0, hb1⟩ := frow_conv s w (by omega)
  obtain ⟨l, hl⟩ : ∃ l, s.data.toList = l := ⟨_, rfl⟩
  rw [hl] at hF0 ht
  have hll : l.length = s.size := by rw [← hl]; rfl
  replace hl := Lib.hid hl
  have hll := Lib.hid hll
  obtain ⟨n, hn⟩ : ∃ n, s.size = n := ⟨_, rfl⟩
  rw [hn] at hF0 hcv hs hll
  replace hn := Lib.hid hn
  have hkg := hK.1
  go_enter Try.func25, Try.ntmps25
  go_wp2_with (at_builtin; refine wpList_append_frow rfl (.tmp 27) (.tmp 28) rfl (by rfl) (hF0.alloc (.cells #[.int .u8 128] 5)) (by have := hb1.size; simp; omega) (m := 1) (cs := [128]) (by rfl) rfl (one_news w1 128 (.int .u8 128) rfl) (by decide) (by decide) (by omega) ?_)
  intro v2 w2 hF2 hg2
  have hb2 : Below w.heap.size w w2 := (hb1.alloc hb1.size (.cells #[.int .u8 128] 5)).grown hg2 (by have := hb1.size; simp; omega) (fun q e => by have := own_blk e; omega)
  change FRow w2 w.heap.size v2 (n + 1) (padZ l 0) at hF2
  clear hF0 hb1 hcv hg2
  go_wp2_with fail
  go_loopw [5] (fun v wr => ∃ z : Nat, z ≤ Sha.noughts n ∧ FRow wr w.heap.size v (n + (1 + z)) (padZ l z) ∧ Below w.heap.size w wr) (fun v _ => n + 100 - lenV v)
  case atStart => exact ⟨0, Nat.zero_le _, hF2, hb2⟩
  case round =>
    clear hF2 hb2
    obtain ⟨z, hz, hF, hb⟩ := hrel
    have hbs := hb.size
    have hz63 := noughts_lt n
    obtain ⟨gb, cb, rfl, hcb, hgb1, hgb2⟩ := hF.lt
    by_cases hlt : z < Sha.noughts n
    · as_aux_lemma =>
      --[z
      have hne := noughts_not n z hlt
      have hne' : (((n + (1 + z) : Nat) : Int) % 64 != 56) = true := by rw [bne_iff_ne]; omega
      obtain ⟨m, hm⟩ : ∃ m, n + (1 + z) = m := ⟨_, rfl⟩
      rw [hm] at hne' hF hcb ⊢
      have hm1 : m ≤ 140737488361000 := by omega
      have hps := Lib.hid (padZ_succ l z)
      replace hm := Lib.hid hm
      replace hne := Lib.hid hne
      go_wp2_with (at_builtin; refine wpList_append_frow rfl (.tmp 34) (.tmp 35) rfl (by rfl) (hF.alloc (.cells #[.int .u8 0] 5)) (by simp; omega) (m := 1) (cs := [0]) (by rfl) rfl (one_news wr 0 (.int .u8 0) rfl) (by decide) (by decide) (by omega) ?_)
      intro v3 w3 hF3 hg3
      have hb3 : Below w.heap.size w w3 := (hb.alloc hbs (.cells #[.int .u8 0] 5)).grown hg3 (by simp; omega) (fun q e => by have := own_blk e; omega)
      rw [hps.out] at hF3
      clear hF hb hg3
      obtain ⟨gb3, cb3, rfl, _, _, _⟩ := hF3.lt
      go_wp2_with fail
      go_roundw
      case rel => exact ⟨z + 1, by omega, by have := hm.out; rw [show n + (1 + (z + 1)) = m + 1 from by omega]; exact hF3, hb3⟩
      case measure => have := hm.out; simp [lenV]; omega
      --]z
    · obtain rfl : z = Sha.noughts n := by omega
      have hend := noughts_end n
      have hend' : (((n + (1 + Sha.noughts n) : Nat) : Int) % 64 != 56) = false := by rw [bne_eq_false_iff_eq]; omega
      have hpp := padZ_pad l (by rw [hll.out]; omega)
      have hpl := padL_length l
      rw [hll.out] at hpp hpl
      obtain ⟨Z, hZ⟩ : ∃ Z, Sha.noughts n = Z := ⟨_, rfl⟩
      rw [hZ] at hend' hF hcb hpp hpl hz63 ⊢
      obtain ⟨m, hm⟩ : ∃ m, n + (1 + Z) = m := ⟨_, rfl⟩
      rw [hm] at hend' hF hcb hpl ⊢
      have hm1 : m ≤ 140737488361000 := by omega
      have hm64 : (m + 8) % 64 = 0 := by omega
      obtain ⟨hi32, hhi⟩ : ∃ x, BitVec.ofNat 32 (8 * n / 4294967296) = x := ⟨_, rfl⟩
      obtain ⟨lo32, hlo⟩ : ∃ x, BitVec.ofNat 32 (8 * n) = x := ⟨_, rfl⟩
      rw [hhi, hlo] at hpp
      obtain ⟨N8, hN8⟩ : ∃ N, 8 * n = N := ⟨_, rfl⟩
      rw [hN8] at hhi hlo
      have hw8 : IntKind.u64.wrap (8 * IntKind.u64.wrap (s.size : Int)) = (N8 : Int) := by
        rw [hn.out, IntKind.wrap_u64, IntKind.wrap_u64]
        omega
      have hhv : (N8 : Int) / 4294967296 % 4294967296 = (hi32.toNat : Int) := by
        rw [← hhi, BitVec.toNat_ofNat]
        omega
      have hlv : bits .and .u64 (N8 : Int) 4294967295 = (lo32.toNat : Int) := by
        rw [← hlo, BitVec.toNat_ofNat, show (4294967295 : Int) = ((4294967295 : Nat) : Int) from rfl, u64_and_nat _ _ (by omega) (by decide), show 4294967295 = 2 ^ 32 - 1 from rfl, Nat.and_two_pow_sub_one_eq_mod]
      replace hN8 := Lib.hid hN8
      have hl32 := lo32.isLt
      have hh32 := hi32.isLt
      replace hend := Lib.hid hend
      replace hZ := Lib.hid hZ
      replace hm := Lib.hid hm
      replace hhi := Lib.hid hhi
      replace hlo := Lib.hid hlo
      replace hpp := Lib.hid hpp
      replace hpl := Lib.hid hpl
      replace hm64 := Lib.hid hm64
      go_wp2_with fail
      (with_reducible refine (four_v (x := hi32) (Lib.hid rfl) _).mono ?_)
      rintro e w3 ⟨rfl, hR3, hb3'⟩
      have hF3 := hF.below hb3'
      have hb3 := hb.trans (hb3'.mono hbs)
      have hbs3 := hb3.size
      clear hF hb hb3'
      go_wp2_with (at_builtin; refine wpList_append_frow rfl (.tmp 41) (.tmp 45) rfl (by rfl) hF3 (by omega) (m := 4) (cs := Sha.w4 hi32) (by rfl) rfl (four_news hR3) (by decide) (by decide) (by omega) ?_)
      intro v4 w4 hF4 hg4
      have hb4 : Below w.heap.size w w4 := hb3.grown hg4 (by omega) (fun q e => by have := own_blk e; omega)
      have hbs4 := hb4.size
      clear hF3 hb3 hg4 hR3
      go_wp2_with fail
      clear hlv hhv hw8
      (with_reducible refine (four_v (x := lo32) (Lib.hid rfl) _).mono ?_)
      rintro e w5 ⟨rfl, hR5, hb5'⟩
      have hF5 := hF4.below hb5'
      have hb5 := hb4.trans (hb5'.mono hbs4)
      have hbs5 := hb5.size
      clear hF4 hb4 hb5'
      go_wp2_with (at_builtin; refine wpList_append_frow rfl (.tmp 47) (.tmp 51) rfl (by rfl) hF5 (by omega) (m := 4) (cs := Sha.w4 lo32) (by rfl) rfl (four_news hR5) (by decide) (by decide) (by omega) ?_)
      intro v6 w6 hF6 hg6
      obtain ⟨gb4, cb4, hv4, _, hgb4, _⟩ := hF5.lt
      have hb6 : Below w.heap.size w w6 := hb5.grown hg6 (by omega) (fun q e => by rw [hv4] at e; have := own_blk e; omega)
      have hbs6 := hb6.size
      have hF7 : FRow w6 w.heap.size v6 (m + 4 + 4) (padL l) := by
        rw [← hpp.out]
        first | exact hF6 | (rw [List.append_assoc]; exact hF6)
      clear hF5 hb5 hg6 hR5 hv4 hgb4 hF6
      obtain ⟨gb6, cb6, rfl, hcb6, hgbW, hgb6⟩ := hF7.lt
      have hcell := fun j (hj : j < m + 4 + 4) => hF7.cell hj
      have hLl := hpl.out
      have hMm := hm64.out
      obtain ⟨M, hM⟩ : ∃ M, m + 4 + 4 = M := ⟨_, rfl⟩
      obtain ⟨L, hL⟩ : ∃ L, padL l = L := ⟨_, rfl⟩
      have hM8 : m + 8 = M := by omega
      rw [hM] at hcell hcb6 ⊢
      rw [hL] at hcell hLl
      rw [hM8] at hLl hMm
      have hMb : M ≤ 140737488362000 := by omega
      have hsha : Hid (str (Sha.out (Sha.run (M / 64) L)) = t) := by
        show _ = _
        rw [← ht.out]
        unfold Sha.sha
        have e1 : l.length + (Sha.pad l.length).length = M := by
          have : (padL l).length = M := by rw [hL]; exact hLl
          unfold padL at this
          rw [List.length_append] at this
          exact this
        rw [e1, ← hL]
        rfl
      obtain ⟨N, hN⟩ : ∃ N, M / 64 = N := ⟨_, rfl⟩
      rw [hN] at hsha
      have hMN : M = 64 * N := by omega
      replace hcell := Lib.hid hcell
      replace hM := Lib.hid hM
      replace hM8 := Lib.hid hM8
      replace hL := Lib.hid hL
      replace hN := Lib.hid hN
      replace hMm := Lib.hid hMm
      replace hLl := Lib.hid hLl
      replace hMN := Lib.hid hMN
      have hK6 := hK.below hb6 hkg
      clear hF7
      have hbs6' := hb6.size
      obtain ⟨gs, hgs⟩ : ∃ g, w6.heap.size = g := ⟨_, rfl⟩
      have hRs : Row (w6.alloc (.cells #[.int .u32 0, .int .u32 0, .int .u32 0, .int .u32 0, .int .u32 0, .int .u32 0, .int .u32 0, .int .u32 0] 48)) gs 48 (stC 0) := by
        rw [← hgs]
        exact Row.new w6 (stC 0) 48
      have hbS : Below gs w6 (w6.alloc (.cells #[.int .u32 0, .int .u32 0, .int .u32 0, .int .u32 0, .int .u32 0, .int .u32 0, .int .u32 0, .int .u32 0] 48)) := (Below.refl _ _).alloc (by omega) _
      have hszS : (w6.alloc (.cells #[.int .u32 0, .int .u32 0, .int .u32 0, .int .u32 0, .int .u32 0, .int .u32 0, .int .u32 0, .int .u32 0] 48)).heap.size = gs + 1 := by simp; omega
      have hmk : (Instr.makeSlice 42 (.int .i64 8) (.int .i64 8)).run Try.prog w6 = .ok (.slice (some ⟨w6.heap.size, 0, none⟩) 8 8) (w6.alloc (.cells #[.int .u32 0, .int .u32 0, .int .u32 0, .int .u32 0, .int .u32 0, .int .u32 0, .int .u32 0, .int .u32 0] 48)) := by kernel_rfl
      rw [hgs] at hmk
      have hgbs : gb6 < gs := by omega
      have hkgs : kg < gs := by omega
      have hWgs : w.heap.size ≤ gs := by omega
      rw [hgs] at hbs6 hbs6' hgb6
      go_wp2_with fail
      clear hmk
      generalize w6.alloc (.cells #[.int .u32 0, .int .u32 0, .int .u32 0, .int .u32 0, .int .u32 0, .int .u32 0, .int .u32 0, .int .u32 0] 48) = w7 at *
      refine (primes_any (w := w7) (n := 8) (by omega) (by omega)).mono ?_
      rintro e w8 ⟨gp, pc, rfl, hgp, hp8, hb8'⟩
      have hRs8 := hRs.below hb8' hRs.lt
      have hbS8 := hbS.trans (hb8'.mono (by omega))
      have hgps : gs ≠ gp := by omega
      clear hRs hbS hb8'
      replace hszS := Lib.hid hszS
      replace hgs := Lib.hid hgs
      go_wp2_with fail
      go_loopw [9] (fun vi wr => ∃ i : Nat, i ≤ 8 ∧ vi = .int .i64 i ∧ Row wr gs 48 (stC i) ∧ DigIn wr ⟨gp, 0, none⟩ 8 (primes.take 8) ∧ Below gs w6 wr) (fun vi _ => 8 - (intOf vi).toNat)
      case atStart => exact ⟨0, Nat.zero_le _, rfl, hRs8, hp8, hbS8⟩
      case round =>
        clear hRs8 hp8 hbS8
        obtain ⟨i, hi8, rfl, hRs, hp8, hbS⟩ := hrel
        by_cases hlt2 : i < 8
        · as_aux_lemma =>
          --[iv
          have hlt2' : (i : Int) < 8 := by omega
          have hi0 : (0 : Int) ≤ (i : Int) := by omega
          have c0 := hp8.at_ hlt2
          rw [Addr.add_mid, Nat.zero_add] at c0
          have e1 : (primes.take 8).getD i 0 = primes.getD i 0 := by rw [List.getD_eq_getElem?_getD, List.getD_eq_getElem?_getD, List.getElem?_take, if_pos hlt2]
          rw [e1] at c0
          have hpr := (primes_low i (by omega)).2
          have hrt := Lib.hid (iv_root i hlt2)
          have hst := stC_set 0 i hlt2
          generalize primes.getD i 0 = p at *
          generalize stg Sha.iv i = x at *
          have hx32 := x.isLt
          replace hst := Lib.hid hst
          replace e1 := Lib.hid e1
          go_wp2_with fail
          (with_reducible refine (root_v (p := p) (n := 2) (ni := 2) (Lib.hid rfl) (by omega) (by omega) (by omega) hrt).mono ?_)
          rintro e w9 ⟨rfl, hb9'⟩
          have hRs9 := hRs.below hb9' hRs.lt
          have hp9 := hp8.below hb9' (Nat.le_refl _)
          have hbS9 := hbS.trans (hb9'.mono (Nat.le_of_lt hRs.lt))
          have c1 := hRs9.cell (stC_old hlt2)
          have f1 := hRs9.free i
          have hRs10 := hRs9.set i (w32 x)
          rw [hst.out] at hRs10
          have hbS10 := hbS9.setCell (p := ⟨gs, i, none⟩) (Nat.le_refl _) (w32 x)
          have hp10 : DigIn (w9.setCell ⟨gs, i, none⟩ (w32 x)) ⟨gp, 0, none⟩ 8 (primes.take 8) := hp9.set_ hgps i (w32 x)
          clear hRs hp8 hbS c0 hb9' hRs9 hp9 hbS9
          change Row (w9.setCell ⟨gs, i, none⟩ (.int .u32 (x.toNat : Int))) _ _ _ at hRs10
          go_wp2_with fail
          go_roundw
          case rel => first | exact ⟨i + 1, by omega, by go_num, hRs10, hp10, hbS10⟩ | ((repeat apply Exists.intro); exact ⟨⟨i + 1, by omega, by go_num, hRs10, hp10, hbS10⟩, rfl⟩)
          case measure => simp [intOf]; omega
          --]iv
        · obtain rfl : i = 8 := by omega
          have hlt2' : ¬ ((8 : Nat) : Int) < 8 := by omega
          rw [stC_all] at hRs
          clear hp8
          change Row wr gs 48 (stA (Sha.run 0 L)).toList at hRs
          go_wp2_with fail
          go_loopw [10] (fun va wr => ∃ m : Nat, m ≤ N ∧ va = .int .i64 ((64 * m : Nat) : Int) ∧ Row wr gs 48 (stA (Sha.run m L)).toList ∧ Below gs w6 wr) (fun va _ => M - (intOf va).toNat)
          case atStart => exact ⟨0, Nat.zero_le _, rfl, hRs, hbS⟩
          case round =>
            clear hRs hbS
            obtain ⟨m2, hm2, rfl, hRs, hbS⟩ := hrel
            by_cases hltm : m2 < N
            · have hMN' := hMN.out
              obtain ⟨A, hA⟩ : ∃ A, 64 * m2 = A := ⟨_, rfl⟩
              have hA64 : A + 64 ≤ M := by omega
              have hltA : (A : Int) < M := by omega
              obtain ⟨blk, hblk⟩ : ∃ blk, (L.drop A).take 64 = blk := ⟨_, rfl⟩
              have hbl : blk.length = 64 := by rw [← hblk, List.length_take, List.length_drop, hLl.out]; omega
              have hbyte : ∀ j, j < 64 → blk.getD j 0 = L.getD (A + j) 0 := fun j hj => by
                rw [← hblk, List.getD_eq_getElem?_getD, List.getD_eq_getElem?_getD, List.getElem?_take, if_pos hj, List.getElem?_drop]
              have hnext : Hid (Sha.run (m2 + 1) L = Sha.next (Sha.run m2 L) blk) := by
                show _ = _
                rw [← hblk, ← hA]
                rfl
              rw [hA]
              generalize Sha.run m2 L = st at *
              have hmk : (Instr.makeSlice 42 (.int .i64 64) (.int .i64 64)).run Try.prog wr = .ok (.slice (some ⟨wr.heap.size, 0, none⟩) 64 64) (wr.alloc (.cells zeroK 48)) := by kernel_rfl
              have hsl := hRs.lt
              obtain ⟨gw, hgw⟩ : ∃ g, wr.heap.size = g := ⟨_, rfl⟩
              have hW0 := Row.new wr zeroK.toList 48
              rw [show zeroK.toList = wC blk 0 from by kernel_rfl] at hW0
              change Row (wr.alloc (.cells zeroK 48)) _ _ _ at hW0
              have hS0 := hRs.alloc (.cells zeroK 48)
              have hb0 := hbS.alloc (Nat.le_of_lt hsl) (.cells zeroK 48)
              rw [hgw] at hW0 hmk hsl
              have hnsw : gs ≠ gw := by omega
              replace hgw := Lib.hid hgw
              replace hblk := Lib.hid hblk
              replace hbyte := Lib.hid hbyte
              replace hA := Lib.hid hA
              replace hbl := Lib.hid hbl
              clear hRs hbS hMN'
              go_wp2_with fail
              generalize wr.alloc (.cells zeroK 48) = wr0 at *
              clear hmk
              go_loopw [12] (fun vi wx => ∃ k : Nat, k ≤ 16 ∧ vi = .int .i64 k ∧ Row wx gw 48 (wC blk k) ∧ Row wx gs 48 (stA st).toList ∧ Below gs w6 wx) (fun vi _ => 16 - (intOf vi).toNat)
              case atStart => exact ⟨0, Nat.zero_le _, rfl, hW0, hS0, hb0⟩
              case round =>
                clear hW0 hS0 hb0
                obtain ⟨k, hk16, rfl, hW, hS, hb⟩ := hrel
                by_cases hltk : k < 16
                · as_aux_lemma =>
                  --[be
                  have hltk' : (k : Int) < 16 := by omega
                  obtain ⟨q, hq⟩ : ∃ q, A + 4 * k = q := ⟨_, rfl⟩
                  have hqM : q + 4 ≤ M := by omega
                  have hqi : (A : Int) + 4 * (k : Int) = (q : Int) := by omega
                  have cb := fun j (hj : j < M) => (hb.cell (p := ⟨gb6, j, none⟩) hgbs).trans (hcell.out j hj)
                  have d0 := cb q (by omega)
                  have d1 := cb (q + 1) (by omega)
                  have d2 := cb (q + 2) (by omega)
                  have d3 := cb (q + 3) (by omega)
                  have hbe : Hid (Sha.wv blk k = Sha.be4 [L.getD q 0, L.getD (q + 1) 0, L.getD (q + 2) 0, L.getD (q + 3) 0]) := by
                    show _ = _
                    rw [wv_low blk hltk]
                    have e : (blk.drop (4 * k)).take 4 = [L.getD q 0, L.getD (q + 1) 0, L.getD (q + 2) 0, L.getD (q + 3) 0] := by
                      have hb4 := hbyte.out
                      have hl64 := hbl.out
                      apply List.ext_getElem?
                      intro j
                      rw [List.getElem?_take]
                      by_cases hj : j < 4
                      · rw [if_pos hj, List.getElem?_drop, List.getElem?_eq_getElem (by omega), ← getD_b (by omega), hb4 _ (by omega), show A + (4 * k + j) = q + j from by omega]
                        rcases (by omega : j = 0 ∨ j = 1 ∨ j = 2 ∨ j = 3) with rfl | rfl | rfl | rfl <;> rfl
                      · rw [if_neg hj, List.getElem?_eq_none (by simp; omega)]
                    unfold Sha.be4
                    rw [e]
                    rfl
                  have hws := wC_set blk k
                  have c1 := hW.cell (wC_old blk (show k < 64 by omega))
                  have f1 := hW.free k
                  generalize L.getD q 0 = b0 at *
                  generalize L.getD (q + 1) 0 = b1 at *
                  generalize L.getD (q + 2) 0 = b2 at *
                  generalize L.getD (q + 3) 0 = b3 at *
                  have x0 : b0.toNat < 256 := b0.toNat_lt
                  have x1 : b1.toNat < 256 := b1.toNat_lt
                  have x2 : b2.toNat < 256 := b2.toNat_lt
                  have x3 : b3.toNat < 256 := b3.toNat_lt
                  simp only [bv] at d0 d1 d2 d3
                  simp only [w32] at c1
                  have p0 : (0 : Int) ≤ (q : Int) := by omega
                  have p1 : (q : Int) < M := by omega
                  have e1 : IntKind.i64.wrap ((q : Int) + 1) = (q : Int) + 1 := IntWalk.i64_in _ (by omega)
                  have e2 : IntKind.i64.wrap ((q : Int) + 2) = (q : Int) + 2 := IntWalk.i64_in _ (by omega)
                  have e3 : IntKind.i64.wrap ((q : Int) + 3) = (q : Int) + 3 := IntWalk.i64_in _ (by omega)
                  have r1 : (0 : Int) ≤ (q : Int) + 1 := by omega
                  have r2 : (0 : Int) ≤ (q : Int) + 2 := by omega
                  have r3 : (0 : Int) ≤ (q : Int) + 3 := by omega
                  have s1 : (q : Int) + 1 < M := by omega
                  have s2 : (q : Int) + 2 < M := by omega
                  have s3 : (q : Int) + 3 < M := by omega
                  have t1 : ((q : Int) + 1).toNat = q + 1 := by omega
                  have t2 : ((q : Int) + 2).toNat = q + 2 := by omega
                  have t3 : ((q : Int) + 3).toNat = q + 3 := by omega
                  have k0 : (0 : Int) ≤ (k : Int) := by omega
                  have k64 : (k : Int) < 64 := by omega
                  replace hq := Lib.hid hq
                  replace hqM := Lib.hid hqM
                  replace hws := Lib.hid hws
                  clear cb
                  go_wp2_with fail
                  clear hqi
                  go_still_tail 32, (by kernel_rfl)
                  go_wp2_with fail
                  rw [be4_or, ← hbe.out]
                  have hW2 := (hW.set k (w32 (Sha.wv blk k))).drew
                  rw [hws.out] at hW2
                  have hS2 := (hS.other (p := ⟨gw, k, none⟩) hnsw (w32 (Sha.wv blk k))).drew
                  have hb2 := (hb.setCell (p := ⟨gw, k, none⟩) (by show gs ≤ gw; omega) (w32 (Sha.wv blk k))).drew
                  go_roundw
                  case rel => first | exact ⟨k + 1, by omega, by go_num, hW2, hS2, hb2⟩ | ((repeat apply Exists.intro); exact ⟨⟨k + 1, by omega, by go_num, hW2, hS2, hb2⟩, rfl⟩)
                  case measure => simp [intOf]; omega
                  --]be
                · obtain rfl : k = 16 := by omega
                  clear hltk
                  have hltk' : ¬ ((16 : Nat) : Int) < 16 := by omega
                  go_wp2_with fail
                  obtain ⟨wo2, hwo2⟩ : ∃ wo : World, wo = wr := ⟨_, rfl⟩
                  subst hwo2
                  go_loopw [14] (fun vi wx => ∃ k : Nat, 16 ≤ k ∧ k ≤ 64 ∧ vi = .int .i64 k ∧ Row wx gw 48 (wC blk k) ∧ Row wx gs 48 (stA st).toList ∧ Below gs w6 wx) (fun vi _ => 64 - (intOf vi).toNat)
                  case atStart => exact ⟨16, Nat.le_refl _, by omega, rfl, hW, hS, hb⟩
                  case round =>
                    clear hW hS hb
                    obtain ⟨k, hk16, hk64, rfl, hW, hS, hb⟩ := hrel
                    by_cases hltk : k < 64
                    · as_aux_lemma =>
                      --[wd
                      have hlt' : (k : Int) < 64 := by omega
                      have hge' : (16 : Int) ≤ k := by omega
                      have c1 := hW.cell (wC_old blk hltk)
                      have f1 := hW.free k
                      have c2 := hW.cell (wC_get blk (show k - 2 < k by omega) (by omega))
                      have c7 := hW.cell (wC_get blk (show k - 7 < k by omega) (by omega))
                      have c15 := hW.cell (wC_get blk (show k - 15 < k by omega) (by omega))
                      have c16 := hW.cell (wC_get blk (show k - 16 < k by omega) (by omega))
                      simp only [w32] at c1 c2 c7 c15 c16
                      have e15 : IntKind.i64.wrap ((k : Int) - 15) = (k : Int) - 15 := IntWalk.i64_in _ (by omega)
                      have e2 : IntKind.i64.wrap ((k : Int) - 2) = (k : Int) - 2 := IntWalk.i64_in _ (by omega)
                      have p15 : (15 : Int) ≤ (k : Int) := by omega
                      have p2 : (2 : Int) ≤ (k : Int) := by omega
                      have q15 : (k : Int) - 15 < 64 := by omega
                      have q2 : (k : Int) - 2 < 64 := by omega
                      have t15 : ((k : Int) - 15).toNat = k - 15 := by omega
                      have t2 : ((k : Int) - 2).toNat = k - 2 := by omega
                      go_wp2_with fail
                      go_quiet (fail)
                      clear e15 e2 p15 p2 q15 q2 t15 t2
                      go_wp2_with fail
                      replace c1 : (wr.drewN nq).cell? ⟨gw, k, none⟩ = _ := c1
                      replace f1 : (wr.drewN nq).frozen? ⟨gw, k, none⟩ = _ := f1
                      replace c7 : (wr.drewN nq).cell? ⟨gw, k - 7, none⟩ = _ := c7
                      replace c16 : (wr.drewN nq).cell? ⟨gw, k - 16, none⟩ = _ := c16
                      replace hW := hW.drewN nq
                      replace hS := hS.drewN nq
                      replace hb := bel_drewN hb nq
                      clear c2 c15
                      generalize wr.drewN nq = wr2 at *
                      have hwv := wv_high blk hk16
                      have hws := wC_set blk k
                      generalize Sha.wv blk (k - 2) = x2 at *
                      generalize Sha.wv blk (k - 7) = x7 at *
                      generalize Sha.wv blk (k - 15) = x15 at *
                      generalize Sha.wv blk (k - 16) = x16 at *
                      replace hwv := Lib.hid hwv
                      replace hws := Lib.hid hws
                      have e16 : IntKind.i64.wrap ((k : Int) - 16) = (k : Int) - 16 := IntWalk.i64_in _ (by omega)
                      have p16 : (16 : Int) ≤ (k : Int) := by omega
                      have q16 : (k : Int) - 16 < 64 := by omega
                      have t16 : ((k : Int) - 16).toNat = k - 16 := by omega
                      have e7 : IntKind.i64.wrap ((k : Int) - 7) = (k : Int) - 7 := IntWalk.i64_in _ (by omega)
                      have p7 : (7 : Int) ≤ (k : Int) := by omega
                      have q7 : (k : Int) - 7 < 64 := by omega
                      have t7 : ((k : Int) - 7).toNat = k - 7 := by omega
                      have k0' : (0 : Int) ≤ (k : Int) := by omega
                      go_region_held3 (fun w' => w'.cell? ⟨gw, k - 7, none⟩ = some (.int .u32 (x7.toNat : Int)) ∧ w'.cell? ⟨gw, k - 16, none⟩ = some (.int .u32 (x16.toNat : Int)))
                        (first | exact ⟨c7, c16⟩ | exact ⟨cell_ne (by omega) c7, cell_ne (by omega) c16⟩)
                        (first
                          | (go_at_call 35; (with_reducible refine (rror_v x15 7 (ni := 7) (Lib.hid rfl) (by decide) (by decide) _).mono ?_); rintro e wA ⟨rfl, mA, rfl⟩)
                          | (go_at_call 35; (with_reducible refine (rror_v x15 18 (ni := 18) (Lib.hid rfl) (by decide) (by decide) _).mono ?_); rintro e wB ⟨rfl, mB, rfl⟩)
                          | (go_at_call 35; (with_reducible refine (rror_v x2 17 (ni := 17) (Lib.hid rfl) (by decide) (by decide) _).mono ?_); rintro e wC ⟨rfl, mC, rfl⟩)
                          | (go_at_call 35; (with_reducible refine (rror_v x2 19 (ni := 19) (Lib.hid rfl) (by decide) (by decide) _).mono ?_); rintro e wD ⟨rfl, mD, rfl⟩))
                      clear e16 p16 q16 t16 e7 p7 q7 t7
                      go_wp2_with fail
                      rw [new_word', ← hwv.out]
                      have hW2 := (hW.drewN (1 + mA + mB + mC + mD)).set k (w32 (Sha.wv blk k))
                      rw [hws.out] at hW2
                      have hS2 := (hS.drewN (1 + mA + mB + mC + mD)).other (p := ⟨gw, k, none⟩) hnsw (w32 (Sha.wv blk k))
                      have hb2 := (bel_drewN hb (1 + mA + mB + mC + mD)).setCell (p := ⟨gw, k, none⟩) (by show gs ≤ gw; omega) (w32 (Sha.wv blk k))
                      go_roundw
                      case rel => first | exact ⟨k + 1, by omega, by omega, by go_num, hW2, hS2, hb2⟩ | ((repeat apply Exists.intro); exact ⟨⟨k + 1, by omega, by omega, by go_num, hW2, hS2, hb2⟩, rfl⟩)
                      case measure => simp [intOf]; omega
                      --]wd
                    · obtain rfl : k = 64 := by omega
                      have hlt' : ¬ ((64 : Nat) : Int) < 64 := by omega
                      clear hltk
                      have hSl := hS.lt
                      have hnews : ∀ j u, (stA st).toList[j]? = some u → (wr.alloc (.cells #[] 48)).cell? ((⟨gs, 0, none⟩ : Addr).add j) = some u := fun j u hj => by
                        rw [Addr.add_mid, Nat.zero_add]
                        exact (hS.alloc (.cells #[] 48)).cell hj
                      have ho0 := World.ownsRow_made (base := gs + 1) (e := 48) (size := 1) wr #[] 0 (by omega) (Nat.zero_le _) rfl
                      go_wp2_with (at_builtin; refine wpList_append_own _ rfl (.tmp 160) (.tmp 161) 42 rfl (gs + 1) 48 i0 (.int .u32 0) 1 4 Try.underlying42 hi hz0 hz1 hz2 rfl (by decide) _ _ _ (by rfl) ho0 ⟨gs, 0, none⟩ 8 8 (stA st).toList (by rfl) rfl hnews (stA_one st) (by decide) (by decide) (by simp; omega) ?_)
                      intro v17 w9 ho9 hg9 _
                      obtain ⟨ao9, cap9, rfl⟩ := own_shape ho9
                      obtain ⟨gv, rfl⟩ := own_some ho9 (by decide)
                      have hV9 : Row8 w9 gv (rnds st blk 0) := ⟨(ho9.lt gv rfl).2, fun j hj => by
                        have := ho9.cells (g := gv) rfl j _ (stA_at st hj)
                        rw [Addr.add_mid, Nat.zero_add] at this
                        exact this⟩
                      have hg9' : (wr.alloc (.cells #[] 48)).grownBy w9 (some wr.heap.size) := hg9
                      have h8cap : 8 ≤ cap9 := by
                        rcases ho9.2 with ⟨hx, _⟩ | ⟨_, _, _, hx, _, _, hle, _⟩
                        · cases hx
                        · cases hx; exact hle
                      have hgsv : gs < gv := by have := (ho9.lt gv rfl).1; omega
                      have hwl := hW.lt
                      have hW9 := (hW.alloc (.cells #[] 48)).grown hg9' (fun e => by injection e with e; omega)
                      have hS9 := (hS.alloc (.cells #[] 48)).grown hg9' (fun e => by injection e with e; omega)
                      have hb9 := (hb.alloc (Nat.le_of_lt hSl) (.cells #[] 48)).grown hg9' (by simp; omega) (fun q e => by injection e with e; omega)
                      clear hW hS hb hnews ho0 ho9 hg9 hg9'
                      go_wp2_with fail
                      go_loopw [17, 18] (fun vv vi wx => ∃ k : Nat, k ≤ 64 ∧ vi = .int .i64 k ∧ (∃ gv cap, vv = .slice (some ⟨gv, 0, none⟩) 8 cap ∧ 8 ≤ cap ∧ gs < gv ∧ Row8 wx gv (rnds st blk k)) ∧ Row wx gw 48 (wC blk 64) ∧ Row wx gs 48 (stA st).toList ∧ Below gs w6 wx) (fun _ vi _ => 64 - (intOf vi).toNat)
                      case atStart => exact ⟨0, Nat.zero_le _, rfl, ⟨gv, cap9, rfl, h8cap, hgsv, hV9⟩, hW9, hS9, hb9⟩
                      case round =>
                        clear hV9 hW9 hS9 hb9
                        obtain ⟨k, hk64', rfl, ⟨gv, cap8, rfl, hcap8, hgsv, hV⟩, hW, hS, hb⟩ := hrel
                        by_cases hltk : k < 64
                        ·
                          --[rd
                          have hlt' : (k : Int) < 64 := by omega
                          have k0' : (0 : Int) ≤ (k : Int) := by omega
                          have ck := (hK6.below hb hkgs).2 k hltk
                          have cw := hW.cell (wC_get blk hltk hltk)
                          have HR : Hid (rnds st blk (k + 1) = Sha.rnd (rnds st blk k) (Sha.key k) (Sha.wv blk k)) := rfl
                          generalize Sha.key k = kk at *
                          generalize Sha.wv blk k = ww at *
                          generalize rnds st blk k = sx at *
                          obtain ⟨va, vb, vc, vd, ve, vf, vg, vh⟩ := sx
                          rw [rnd_is] at HR
                          have c0 := hV.2 0 (by decide)
                          have c1 := hV.2 1 (by decide)
                          have c2 := hV.2 2 (by decide)
                          have c3 := hV.2 3 (by decide)
                          have c4 := hV.2 4 (by decide)
                          have c5 := hV.2 5 (by decide)
                          have c6 := hV.2 6 (by decide)
                          have c7 := hV.2 7 (by decide)
                          change wr.cell? ⟨gv, 0, none⟩ = some (.int .u32 (va.toNat : Int)) at c0
                          change wr.cell? ⟨gv, 1, none⟩ = some (.int .u32 (vb.toNat : Int)) at c1
                          change wr.cell? ⟨gv, 2, none⟩ = some (.int .u32 (vc.toNat : Int)) at c2
                          change wr.cell? ⟨gv, 3, none⟩ = some (.int .u32 (vd.toNat : Int)) at c3
                          change wr.cell? ⟨gv, 4, none⟩ = some (.int .u32 (ve.toNat : Int)) at c4
                          change wr.cell? ⟨gv, 5, none⟩ = some (.int .u32 (vf.toNat : Int)) at c5
                          change wr.cell? ⟨gv, 6, none⟩ = some (.int .u32 (vg.toNat : Int)) at c6
                          change wr.cell? ⟨gv, 7, none⟩ = some (.int .u32 (vh.toNat : Int)) at c7
                          simp only [w32] at cw
                          have hsg : IntKind.u32.signed = false := rfl
                          have hmx : IntKind.u32.max = 4294967295 := rfl
                          replace hcap8 := Lib.hid hcap8
                          go_wp2_with fail
                          go_quiet (fail)
                          go_wp2_with fail
                          replace ck : (wr.drewN nq).cell? _ = _ := ck
                          replace cw : (wr.drewN nq).cell? _ = _ := cw
                          replace c0 : (wr.drewN nq).cell? _ = _ := c0
                          replace c1 : (wr.drewN nq).cell? _ = _ := c1
                          replace c2 : (wr.drewN nq).cell? _ = _ := c2
                          replace c3 : (wr.drewN nq).cell? _ = _ := c3
                          replace c4 : (wr.drewN nq).cell? _ = _ := c4
                          replace c5 : (wr.drewN nq).cell? _ = _ := c5
                          replace c6 : (wr.drewN nq).cell? _ = _ := c6
                          replace c7 : (wr.drewN nq).cell? _ = _ := c7
                          replace hW := hW.drewN nq
                          replace hS := hS.drewN nq
                          replace hb := bel_drewN hb nq
                          replace hV := hV.drewN nq
                          generalize wr.drewN nq = wr at *
                          go_quiet ((go_at_call 35; exact Calls.quiet_of (rror_any _ _ (by decide) (by decide) _)))
                          go_wp2_with fail
                          first | rw [round_t] | rw [round_t']
                          generalize tt ve vf vg vh kk ww = tq at *
                          replace c0 : (wr.drewN nq).cell? _ = _ := c0
                          replace c1 : (wr.drewN nq).cell? _ = _ := c1
                          replace c2 : (wr.drewN nq).cell? _ = _ := c2
                          replace c3 : (wr.drewN nq).cell? _ = _ := c3
                          replace c4 : (wr.drewN nq).cell? _ = _ := c4
                          replace c5 : (wr.drewN nq).cell? _ = _ := c5
                          replace c6 : (wr.drewN nq).cell? _ = _ := c6
                          replace hW := hW.drewN nq
                          replace hS := hS.drewN nq
                          replace hb := bel_drewN hb nq
                          replace hV := hV.drewN nq
                          clear c7 ck cw
                          generalize wr.drewN nq = wr at *
                          go_quiet ((go_at_call 35; exact Calls.quiet_of (rror_any _ _ (by decide) (by decide) _)))
                          go_wp2_with fail
                          rw [round_u]
                          generalize uu va vb vc = uq at *
                          replace c0 : (wr.drewN nq).cell? _ = _ := c0
                          replace c1 : (wr.drewN nq).cell? _ = _ := c1
                          replace c2 : (wr.drewN nq).cell? _ = _ := c2
                          replace c3 : (wr.drewN nq).cell? _ = _ := c3
                          replace c4 : (wr.drewN nq).cell? _ = _ := c4
                          replace c5 : (wr.drewN nq).cell? _ = _ := c5
                          replace c6 : (wr.drewN nq).cell? _ = _ := c6
                          replace hW := hW.drewN nq
                          replace hS := hS.drewN nq
                          replace hb := bel_drewN hb nq
                          replace hV := hV.drewN nq
                          generalize wr.drewN nq = wr at *
                          go_still_tail 26, (by kernel_rfl)
                          go_wp2_with fail
                          rw [x32_add tq uq, x32_add vd tq]
                          have hsz : gs < wr.heap.size := hS.lt
                          have hV2 := Row8.fresh wr.drew ⟨tq + uq, va, vb, vc, vd + tq, ve, vf, vg⟩ 48
                          have hW2 := hW.drew.alloc (.cells (stA ⟨tq + uq, va, vb, vc, vd + tq, ve, vf, vg⟩) 48)
                          have hS2 := hS.drew.alloc (.cells (stA ⟨tq + uq, va, vb, vc, vd + tq, ve, vf, vg⟩) 48)
                          have hb2 := hb.drew.alloc (Nat.le_of_lt hsz) (.cells (stA ⟨tq + uq, va, vb, vc, vd + tq, ve, vf, vg⟩) 48)
                          go_roundw
                          case rel => first | exact ⟨k + 1, by omega, by go_num, ⟨_, _, rfl, Nat.le_refl _, hsz, by rw [HR.out]; exact hV2⟩, hW2, hS2, hb2⟩ | ((repeat apply Exists.intro); exact ⟨⟨k + 1, by omega, by go_num, ⟨_, _, rfl, Nat.le_refl _, hsz, by rw [HR.out]; exact hV2⟩, hW2, hS2, hb2⟩, rfl⟩)
                          case measure => simp [intOf]; omega
                          --]rd
                        · obtain rfl : k = 64 := by omega
                          have hlt' : ¬ ((64 : Nat) : Int) < 64 := by omega
                          clear hltk
                          have hSa := hS
                          rw [addC_zero st (rnds st blk 64)] at hSa
                          have hSl := hS.lt
                          have hnx : Hid ((stA (Sha.next st blk)).toList = addC st (rnds st blk 64) 8) := by
                            show _ = _
                            rw [addC_all, next_is, add_comm']
                          generalize rnds st blk 64 = rn at *
                          clear hW hS
                          go_wp2_with fail
                          have hnvs : gs ≠ gv := by omega
                          go_loopw [23] (fun vi wx => ∃ k : Nat, k ≤ 8 ∧ vi = .int .i64 k ∧ Row wx gs 48 (addC st rn k) ∧ Row8 wx gv rn ∧ Below gs w6 wx) (fun vi _ => 8 - (intOf vi).toNat)
                          case atStart => exact ⟨0, Nat.zero_le _, rfl, hSa, hV, hb⟩
                          case round => as_aux_lemma =>
                            clear hSa hV hb
                            obtain ⟨k, hk8, rfl, hS, hV, hb⟩ := hrel
                            by_cases hltk : k < 8
                            ·
                              --[ad
                              have hlt' : (k : Int) < 8 := by omega
                              have k0' : (0 : Int) ≤ (k : Int) := by omega
                              have cs := hS.cell (addC_old st rn hltk)
                              have fs := hS.free k
                              have cv := hV.2 k hltk
                              have hst := addC_set st rn k
                              generalize stg st k = xa at *
                              generalize stg rn k = xb at *
                              simp only [w32] at cs
                              replace hst := Lib.hid hst
                              go_wp2_with fail
                              go_still_tail 10, (by kernel_rfl)
                              go_wp2_with fail
                              rw [x32_add xa xb]
                              have hS2 := (hS.set k (w32 (xa + xb))).drew
                              rw [hst.out] at hS2
                              have hV2 := (hV.other (o := k) hnvs (w32 (xa + xb))).drew
                              have hb2 := (hb.setCell (p := ⟨gs, k, none⟩) (Nat.le_refl _) (w32 (xa + xb))).drew
                              go_roundw
                              case rel => first | exact ⟨k + 1, by omega, by go_num, hS2, hV2, hb2⟩ | ((repeat apply Exists.intro); exact ⟨⟨k + 1, by omega, by go_num, hS2, hV2, hb2⟩, rfl⟩)
                              case measure => simp [intOf]; omega
                              --]ad
                            ·
                              --[nx
                              obtain rfl : k = 8 := by omega
                              have hlt' : ¬ ((8 : Nat) : Int) < 8 := by omega
                              rw [← hnx.out] at hS
                              rw [← hnext.out] at hS
                              go_wp2_with fail
                              go_roundw
                              case rel => first | exact ⟨m2 + 1, by omega, by have := hA.out; congr 1; omega, hS, hb⟩ | ((repeat apply Exists.intro); exact ⟨⟨m2 + 1, by omega, by have := hA.out; congr 1; omega, hS, hb⟩, rfl⟩)
                              case measure => simp [intOf]; omega
                              --]nx
            · obtain rfl : m2 = N := by omega
              have hMN' := hMN.out
              have hltA : ¬ ((64 * m2 : Nat) : Int) < M := by omega
              rw [← hMN'] at hltA ⊢
              generalize Sha.run m2 L = fin at *
              have hSl := hRs.lt
              have hF0 : FRow (wr.alloc (.cells #[] 5)) (gs + 1) (.slice (some ⟨wr.heap.size, 0, none⟩) 0 0) 0 (outTo fin 0) :=
                ⟨rfl, wr.heap.size, 0, #[], (0, 0), rfl, by omega, heap_alloc_new wr _, thaw_zero _, Nat.le_refl _, Nat.zero_le _, rfl, rfl⟩
              have hR0 := hRs.alloc (.cells #[] 5)
              have hb0 := hbS.alloc (Nat.le_of_lt hSl) (.cells #[] 5)
              replace hMN' := Lib.hid hMN'
              clear hRs hbS
              go_wp2_with fail
              go_loopw [24, 25] (fun vo vi wx => ∃ j : Nat, j ≤ 8 ∧ vi = .int .i64 j ∧ FRow wx (gs + 1) vo (4 * j) (outTo fin j) ∧ Row wx gs 48 (stA fin).toList ∧ Below gs w6 wx) (fun _ vi _ => 8 - (intOf vi).toNat)
              case atStart => exact ⟨0, Nat.zero_le _, rfl, hF0, hR0, hb0⟩
              case round => as_aux_lemma =>
                clear hF0 hR0 hb0
                obtain ⟨j, hj8, rfl, hF, hR, hb⟩ := hrel
                obtain ⟨go, co, rfl, hco, hgo1, hgo2⟩ := hF.lt
                by_cases hltj : j < 8
                ·
                  --[o
                  have hlt' : (j : Int) < 8 := by omega
                  have k0' : (0 : Int) ≤ (j : Int) := by omega
                  have cs := hR.cell (stA_at fin hltj)
                  have hos := outTo_succ fin j
                  generalize stg fin j = x at *
                  have hx32 := x.isLt
                  simp only [w32] at cs
                  obtain ⟨J, hJ⟩ : ∃ J, 4 * j = J := ⟨_, rfl⟩
                  rw [hJ] at hF hco ⊢
                  have hJ32 : J ≤ 32 := by omega
                  replace hos := Lib.hid hos
                  replace hJ := Lib.hid hJ
                  have hbsx := hb.size
                  go_wp2_with fail
                  (with_reducible refine (four_v (x := x) (Lib.hid rfl) _).mono ?_)
                  rintro e w10 ⟨rfl, hR10, hb10'⟩
                  have hF10 := hF.below hb10'
                  have hRr := hR.below hb10' hR.lt
                  have hb10 := hb.trans (hb10'.mono (Nat.le_of_lt hR.lt))
                  have hbs10 := hRr.lt
                  clear hF hR hb hb10' cs
                  go_wp2_with (at_builtin; refine wpList_append_frow rfl (.tmp 282) (.tmp 287) rfl (by rfl) hF10 (by omega) (m := 4) (cs := Sha.w4 x) (by rfl) rfl (four_news hR10) (by decide) (by decide) (by omega) ?_)
                  intro v11 w11 hF11 hg11
                  have hg11' : w10.grownBy w11 (some go) := hg11
                  have hRr11 := hRr.grown hg11' (fun e => by injection e with e; omega)
                  have hb11 := hb10.grown hg11' (Nat.le_of_lt hbs10) (fun q e => by injection e with e; omega)
                  rw [← hos.out] at hF11
                  clear hF10 hRr hb10 hg11 hg11' hR10
                  go_wp2_with fail
                  go_roundw
                  case rel => first | exact ⟨j + 1, by omega, by go_num, by have := hJ.out; rw [show 4 * (j + 1) = J + 4 from by omega]; exact hF11, hRr11, hb11⟩ | ((repeat apply Exists.intro); exact ⟨⟨j + 1, by omega, by go_num, by have := hJ.out; rw [show 4 * (j + 1) = J + 4 from by omega]; exact hF11, hRr11, hb11⟩, rfl⟩)
                  case measure => simp [intOf]; omega
                  --]o
                ·
                  --[oe
                  obtain rfl : j = 8 := by omega
                  have hlt' : ¬ ((8 : Nat) : Int) < 8 := by omega
                  have hcv := hF.back
                  rw [outTo_all, hsha.out] at hcv
                  have hbW := hb6.trans (hb.mono hWgs)
                  clear hF hR hb
                  go_wp2_with fail
                  go_ret
                  exact ⟨rfl, hbW⟩
                  --]oe
end Go.Proofs.Ytcllcajkmimgbaa.RH
