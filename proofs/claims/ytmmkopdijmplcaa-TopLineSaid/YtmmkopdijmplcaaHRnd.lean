/-
  One word and one round, plainly, in the walk's spelling; no condition.
-/
import Derived.Test.YtmmkopdijmplcaaHWv
namespace Go.Proofs.Ytmmkopdijmplcaa.HH
open Go.RowKit Base
theorem sg0_is (x : BitVec 32) : bits .xor .u32 (bits .xor .u32 ((Sha.ror x 7).toNat : Int) ((Sha.ror x 18).toNat : Int)) ((x.toNat : Int) / 8) = ((Sha.sg0 x).toNat : Int) := by
  rw [x32_xor, show (8 : Int) = 2 ^ 3 from rfl, x32_shr, x32_xor]; rfl
theorem sg1_is (x : BitVec 32) : bits .xor .u32 (bits .xor .u32 ((Sha.ror x 17).toNat : Int) ((Sha.ror x 19).toNat : Int)) ((x.toNat : Int) / 1024) = ((Sha.sg1 x).toNat : Int) := by
  rw [x32_xor, show (1024 : Int) = 2 ^ 10 from rfl, x32_shr, x32_xor]; rfl
theorem bg0_is (x : BitVec 32) : bits .xor .u32 (bits .xor .u32 ((Sha.ror x 2).toNat : Int) ((Sha.ror x 13).toNat : Int)) ((Sha.ror x 22).toNat : Int) = ((Sha.bg0 x).toNat : Int) := by
  rw [x32_xor, x32_xor]; rfl
theorem bg1_is (x : BitVec 32) : bits .xor .u32 (bits .xor .u32 ((Sha.ror x 6).toNat : Int) ((Sha.ror x 11).toNat : Int)) ((Sha.ror x 25).toNat : Int) = ((Sha.bg1 x).toNat : Int) := by
  rw [x32_xor, x32_xor]; rfl
theorem ch_is (e f g : BitVec 32) : bits .xor .u32 (bits .and .u32 (e.toNat : Int) (f.toNat : Int)) (bits .and .u32 (bits .xor .u32 4294967295 (e.toNat : Int)) (g.toNat : Int)) = ((Sha.ch e f g).toNat : Int) := by
  rw [x32_and, x32_neg, x32_and, x32_xor]; rfl
theorem mj_is (a b c : BitVec 32) : bits .xor .u32 (bits .xor .u32 (bits .and .u32 (a.toNat : Int) (b.toNat : Int)) (bits .and .u32 (a.toNat : Int) (c.toNat : Int))) (bits .and .u32 (b.toNat : Int) (c.toNat : Int)) = ((Sha.mj a b c).toNat : Int) := by
  rw [x32_and, x32_and, x32_and, x32_xor, x32_xor]; rfl
theorem new_word (a b c d : BitVec 32) : Value.int .u32 ((↑(BitVec.toNat a) +
                      bits BinOp.xor IntKind.u32 (bits BinOp.xor IntKind.u32 ↑(BitVec.toNat (Sha.ror b 7)) ↑(BitVec.toNat (Sha.ror b 18))) (↑(BitVec.toNat b) / 8) +
                    ↑(BitVec.toNat c) +
                  bits BinOp.xor IntKind.u32 (bits BinOp.xor IntKind.u32 ↑(BitVec.toNat (Sha.ror d 17)) ↑(BitVec.toNat (Sha.ror d 19))) (↑(BitVec.toNat d) / 1024)) % 4294967296) = w32 (a + Sha.sg0 b + c + Sha.sg1 d) := by
  rw [sg0_is, sg1_is]
  unfold w32
  congr 1
  simp only [BitVec.toNat_add]
  omega
def tt (e f g h k w : BitVec 32) : BitVec 32 := h + Sha.bg1 e + Sha.ch e f g + k + w
def uu (a b c : BitVec 32) : BitVec 32 := Sha.bg0 a + Sha.mj a b c
theorem rnd_is (a b c d e f g h k w : BitVec 32) : Sha.rnd ⟨a, b, c, d, e, f, g, h⟩ k w = ⟨tt e f g h k w + uu a b c, a, b, c, d + tt e f g h k w, e, f, g⟩ := rfl
theorem round_t (e f g h k w : BitVec 32) : ((↑(BitVec.toNat h) +
                      bits BinOp.xor IntKind.u32 (bits BinOp.xor IntKind.u32 ↑(BitVec.toNat (Sha.ror e 6)) ↑(BitVec.toNat (Sha.ror e 11))) ↑(BitVec.toNat (Sha.ror e 25)) +
                    bits BinOp.xor IntKind.u32 (bits BinOp.and IntKind.u32 ↑(BitVec.toNat e) ↑(BitVec.toNat f)) (bits BinOp.and IntKind.u32 (bits BinOp.xor IntKind.u32 4294967295 ↑(BitVec.toNat e)) ↑(BitVec.toNat g)) +
                  ↑(BitVec.toNat k) +
                ↑(BitVec.toNat w)) %
              4294967296 : Int) = ((tt e f g h k w).toNat : Int) := by
  rw [bg1_is, ch_is]
  unfold tt
  simp only [BitVec.toNat_add]
  omega
theorem round_t' (e f g h k w : BitVec 32) : (((↑(BitVec.toNat h) +
                      bits BinOp.xor IntKind.u32 (bits BinOp.xor IntKind.u32 ↑(BitVec.toNat (Sha.ror e 6)) ↑(BitVec.toNat (Sha.ror e 11))) ↑(BitVec.toNat (Sha.ror e 25)) +
                    bits BinOp.xor IntKind.u32 (bits BinOp.and IntKind.u32 ↑(BitVec.toNat e) ↑(BitVec.toNat f)) (bits BinOp.and IntKind.u32 (bits BinOp.xor IntKind.u32 4294967295 ↑(BitVec.toNat e)) ↑(BitVec.toNat g)) +
                  ↑(BitVec.toNat k)) % 4294967296 +
                ↑(BitVec.toNat w)) %
              4294967296 : Int) = ((tt e f g h k w).toNat : Int) := by
  rw [← round_t]
  exact Int.emod_add_emod _ _ _
theorem round_u (a b c : BitVec 32) : ((bits BinOp.xor IntKind.u32 (bits BinOp.xor IntKind.u32 ↑(BitVec.toNat (Sha.ror a 2)) ↑(BitVec.toNat (Sha.ror a 13))) ↑(BitVec.toNat (Sha.ror a 22)) +
          bits BinOp.xor IntKind.u32 (bits BinOp.xor IntKind.u32 (bits BinOp.and IntKind.u32 ↑(BitVec.toNat a) ↑(BitVec.toNat b)) (bits BinOp.and IntKind.u32 ↑(BitVec.toNat a) ↑(BitVec.toNat c))) (bits BinOp.and IntKind.u32 ↑(BitVec.toNat b) ↑(BitVec.toNat c))) % 4294967296 : Int) = ((uu a b c).toNat : Int) := by
  rw [bg0_is, mj_is]
  unfold uu
  simp only [BitVec.toNat_add]
  omega
/-- the state after i rounds -/
def rnds (s : Sha.St) (blk : List UInt8) : Nat → Sha.St
  | 0 => s
  | i + 1 => Sha.rnd (rnds s blk i) (Sha.key i) (Sha.wv blk i)
theorem rounds_append (s : Sha.St) (ks ws : List (BitVec 32)) (k w : BitVec 32) (h : ks.length = ws.length) : Sha.rounds s (ks ++ [k]) (ws ++ [w]) = Sha.rnd (Sha.rounds s ks ws) k w := by
  induction ks generalizing s ws with
  | nil =>
    cases ws with
    | nil => rfl
    | cons => simp at h
  | cons a ks ih =>
    cases ws with
    | nil => simp at h
    | cons b ws => exact ih _ _ (by simpa using h)
theorem wl_length (blk : List UInt8) (n : Nat) : (Sha.wl blk n).length = n := by
  induction n with
  | zero => rfl
  | succ n ih =>
    show (Sha.wl blk n).length + 1 = _
    rw [ih]
theorem rnds_take (s : Sha.St) (blk : List UInt8) (i : Nat) (h : i ≤ 64) : Sha.rounds s (Sha.keyL.take i) (Sha.wl blk i).reverse = rnds s blk i := by
  induction i with
  | zero => rfl
  | succ i ih =>
    have hk : i < Sha.keyL.length := h
    have e : Sha.keyL.take (i + 1) = Sha.keyL.take i ++ [Sha.key i] := by
      rw [List.take_succ_eq_append_getElem hk]
      unfold Sha.key
      rw [List.getD_eq_getElem?_getD, List.getElem?_eq_getElem hk]
      rfl
    have e2 : (Sha.wl blk (i + 1)).reverse = (Sha.wl blk i).reverse ++ [Sha.wv blk i] := by
      show (Sha.wstep blk i (Sha.wl blk i) :: Sha.wl blk i).reverse = _
      rw [List.reverse_cons]
      rfl
    rw [e, e2, rounds_append _ _ _ _ _ (by rw [List.length_take, List.length_reverse, wl_length]; omega), ih (by omega)]
    rfl
theorem next_is (s : Sha.St) (blk : List UInt8) : Sha.next s blk = Sha.add (rnds s blk 64) s := by
  unfold Sha.next
  rw [← rnds_take s blk 64 (Nat.le_refl _)]
  rfl
def stg (s : Sha.St) (i : Nat) : BitVec 32 := [s.a, s.b, s.c, s.d, s.e, s.f, s.g, s.h].getD i 0#32
/-- the row of the state when k of its words have been added -/
def addC (r s : Sha.St) (k : Nat) : List Value := (List.range 8).map fun i => w32 (if i < k then stg r i + stg s i else stg r i)
theorem addC_length (r s : Sha.St) (k : Nat) : (addC r s k).length = 8 := by
  unfold addC
  rw [List.length_map, List.length_range]
theorem addC_at (r s : Sha.St) (k i : Nat) (h : i < 8) : (addC r s k)[i]? = some (w32 (if i < k then stg r i + stg s i else stg r i)) := by
  unfold addC
  rw [List.getElem?_map, List.getElem?_range h, Option.map_some]
theorem addC_old (r s : Sha.St) {k : Nat} (h : k < 8) : (addC r s k)[k]? = some (w32 (stg r k)) := by
  rw [addC_at r s k k h, if_neg (Nat.lt_irrefl _)]
theorem addC_set (r s : Sha.St) (k : Nat) : (addC r s k).set k (w32 (stg r k + stg s k)) = addC r s (k + 1) := by
  apply List.ext_getElem?
  intro i
  rw [List.getElem?_set, addC_length]
  by_cases h8 : i < 8
  · rw [addC_at _ _ _ _ h8, addC_at _ _ _ _ h8]
    by_cases hk : k = i
    · subst hk
      rw [if_pos rfl, if_pos h8, if_pos (Nat.lt_succ_self _)]
    · rw [if_neg hk]
      by_cases h : i < k
      · rw [if_pos h, if_pos (by omega)]
      · rw [if_neg h, if_neg (by omega)]
  · rw [List.getElem?_eq_none (l := addC r s k) (by rw [addC_length]; omega), List.getElem?_eq_none (l := addC r s (k + 1)) (by rw [addC_length]; omega)]
    by_cases hk : k = i
    · rw [if_pos hk, if_neg (by omega)]
    · rw [if_neg hk]
theorem addC_zero (r s : Sha.St) : (stA r).toList = addC r s 0 := rfl
theorem addC_all (r s : Sha.St) : addC r s 8 = (stA (Sha.add r s)).toList := rfl
theorem stA_at (s : Sha.St) {i : Nat} (h : i < 8) : (stA s).toList[i]? = some (w32 (stg s i)) := by
  rcases (by omega : i = 0 ∨ i = 1 ∨ i = 2 ∨ i = 3 ∨ i = 4 ∨ i = 5 ∨ i = 6 ∨ i = 7) with rfl | rfl | rfl | rfl | rfl | rfl | rfl | rfl <;> rfl
end Go.Proofs.Ytmmkopdijmplcaa.HH
