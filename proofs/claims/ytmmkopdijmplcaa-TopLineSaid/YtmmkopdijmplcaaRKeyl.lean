/-
  Keys of the document's hash returns the numbers K; and what the sum's walk wants of plain facts.
-/
import Derived.Test.YtmmkopdijmplcaaRRow
set_option linter.unusedVariables false
set_option maxRecDepth 100000
namespace Go.Proofs.Ytmmkopdijmplcaa.RH
open Go.RowKit Base HH
theorem key_root : ∀ i, i < 64 → root32 (primes.getD i 0) 3 = (Sha.key i).toNat := by decide +kernel
theorem iv_root : ∀ i, i < 8 → root32 (primes.getD i 0) 2 = (stg Sha.iv i).toNat := by decide +kernel
/-- block g holds the numbers K -/
def KeyIn (w : World) (g : Nat) : Prop := g < w.heap.size ∧ ∀ k, k < 64 → w.cell? ⟨g, k, none⟩ = some (.int .u32 ((Sha.key k).toNat : Int))
theorem KeyIn.below {w w1 : World} {B g : Nat} (h : KeyIn w g) (hb : Below B w w1) (hB : g < B) : KeyIn w1 g :=
  ⟨Nat.lt_of_lt_of_le h.1 hb.size, fun k hk => (hb.cell (p := ⟨g, k, none⟩) hB).trans (h.2 k hk)⟩
def KeysPost (w : World) (e : Ending) (w' : World) : Prop := ∃ g cap, e = .returned (.slice (some ⟨g, 0, none⟩) 64 cap) ∧ KeyIn w' g ∧ Below w.heap.size w w'
def keyC (i : Nat) : List Value := (List.range i).map fun k => w32 (Sha.key k)
theorem keyC_succ (i : Nat) : keyC (i + 1) = keyC i ++ [w32 (Sha.key i)] := by
  unfold keyC
  rw [List.range_succ, List.map_append]
  rfl
theorem own_keep {w w1 : World} {B n : Nat} {e : TypeId} {v : Value} {xs : List Value} (h : w.ownsRow B e 1 v n xs) (hb : Below w.heap.size w w1) : w1.ownsRow B e 1 v n xs := by
  refine ⟨h.1, ?_⟩
  rcases h.2 with h1 | ⟨g, c, cur, hv, hB, hh, hr⟩
  · exact .inl h1
  · refine .inr ⟨g, c, cur, hv, hB, ?_, hr⟩
    rw [hb.block g (Array.getElem?_eq_some_iff.1 hh).1]
    exact hh
theorem own_shape {w : World} {B n : Nat} {e : TypeId} {v : Value} {xs : List Value} (h : w.ownsRow B e 1 v n xs) : ∃ ao cap, v = .slice ao n cap := by
  rcases h.2 with ⟨hv, h0⟩ | ⟨g, c, cur, hv, _⟩
  · subst h0
    exact ⟨none, 0, hv⟩
  · exact ⟨_, c, hv⟩
theorem own_some {w : World} {B n cap : Nat} {e : TypeId} {ao : Option Addr} {xs : List Value} (h : w.ownsRow B e 1 (.slice ao n cap) n xs) (hn : 0 < n) : ∃ g, ao = some ⟨g, 0, none⟩ := by
  rcases h.2 with ⟨_, h0⟩ | ⟨g, c, cur, hv, _⟩
  · omega
  · injection hv with h1
    exact ⟨g, h1⟩
theorem root_v {w : World} {p n : Nat} {ni : Int} (hni : Hid (ni = (n : Int))) (hp : p < 65536) (hn : n ≤ 3) (hn2 : 2 ≤ n) {r : Nat} (hr : Hid (root32 p n = r)) :
    Calls Try.prog 78 #[.int .u64 p, .int .i64 ni] w fun e w' => e = .returned (.int .u32 (r : Int)) ∧ Below w.heap.size w w' := by
  rw [hni.out]
  exact root_any hp hn hn2 hr
set_option maxHeartbeats 2000000 in
theorem keys_any (w : World) : Calls Try.prog 69 #[] w (KeysPost w) := by
  obtain ⟨i0, hi, hz0, hz1, hz2⟩ := info_parts infoU32
  have ho0 := World.ownsRow_made (base := w.heap.size) (e := 117) (size := 1) w #[] 0 (Nat.le_refl _) (Nat.zero_le _) rfl
  have hb0 := (Below.refl w.heap.size w).alloc (Nat.le_refl _) (.cells #[] 117)
  go_enter Try.func69, Try.ntmps69
  have hsz1 : (w.alloc (.cells #[] 117)).heap.size = w.heap.size + 1 := by simp
  replace hsz1 := Lib.hid hsz1
  go_wp2_with fail
  generalize w.alloc (.cells #[] 117) = w1 at *
  refine (primes_any (w := w1) (n := 64) (by omega) (by omega)).mono ?_
  rintro e w2 ⟨gp, pc, rfl, hgp, hp, hb2'⟩
  have ho2 : w2.ownsRow w.heap.size 117 1 (.slice (some ⟨w.heap.size, 0, none⟩) 0 0) 0 (keyC 0) := own_keep ho0 hb2'
  have hb2 := hb0.trans (hb2'.mono hb0.size)
  clear ho0 hb0 hb2'
  rw [List.take_of_length_le (Nat.le_of_eq primes_length)] at hp
  have hbW := hb2.size
  have hne0 : ∀ g, (Value.slice (some ⟨w.heap.size, 0, none⟩) 0 0).ownBlock = some g → g ≠ gp := fun g hg => by
    have e : w.heap.size = g := Option.some.inj hg
    have := hsz1.out
    omega
  go_wp2_with fail
  go_loopw [1, 3] (fun v vi wr => ∃ i : Nat, i ≤ 64 ∧ vi = .int .i64 i ∧ wr.ownsRow w.heap.size 117 1 v i (keyC i) ∧ DigIn wr ⟨gp, 0, none⟩ 64 primes ∧ (∀ g, v.ownBlock = some g → g ≠ gp) ∧ Below w.heap.size w wr) (fun _ vi _ => 64 - (intOf vi).toNat)
  case atStart => exact ⟨0, Nat.zero_le _, rfl, ho2, hp, hne0, hb2⟩
  case round =>
    clear ho2
    obtain ⟨i, hi64, rfl, ho, hp, hne, hbw⟩ := hrel
    have hbs := hbw.size
    obtain ⟨ao, cap, rfl⟩ := own_shape ho
    by_cases hlt : i < 64
    · have hlt' : (i : Int) < 64 := by omega
      have hi0 : (0 : Int) ≤ (i : Int) := by omega
      have c0 := hp.at_ hlt
      have hpl := hp.2.1
      rw [Addr.add_mid, Nat.zero_add] at c0
      have hkr := Lib.hid (key_root i hlt)
      have hpr := (primes_low i hlt).2
      have hks := keyC_succ i
      generalize primes.getD i 0 = p at *
      obtain ⟨k0, hk⟩ : ∃ k, Sha.key i = k := ⟨_, rfl⟩
      rw [hk] at hks hkr
      have hk32 := k0.isLt
      replace hks := Lib.hid hks
      replace hk := Lib.hid hk
      replace hk32 := Lib.hid hk32
      go_wp2_with fail
      (with_reducible refine (root_v (p := p) (n := 3) (ni := 3) (Lib.hid rfl) (by omega) (by omega) (by omega) hkr).mono ?_)
      rintro e w3 ⟨rfl, hb3'⟩
      have hp3 := hp.below hb3' (Nat.le_refl _)
      have hpl3 := hp3.2.1
      have hbw3 := hbw.trans (hb3'.mono hbw.size)
      have ho3 := own_keep ho hb3'
      have hbs3 := hbw3.size
      clear c0 hp hbw ho hb3'
      go_wp2_with (at_builtin; refine wpList_append_own_at _ rfl (.tmp 10) (.tmp 16) 115 rfl w.heap.size 117 i0 (.int .u32 0) 1 4 Try.underlying115 hi hz0 hz1 hz2 rfl (by decide) _ _ _ rfl (ho3.alloc _) ⟨w3.heap.size, 0, none⟩ 1 1 [.int .u32 (k0.toNat : Int)] rfl rfl ?c1 ?c2 ?c3 ?c4 ?c5 ?_)
      case c1 => exact cell_one_new _ _ _
      case c2 => exact one_cell _ rfl
      case c3 => unfold maxLen; omega
      case c4 => omega
      case c5 => simp; omega
      intro v' w4 ho' hg' _ hat'
      have hln := ho3.lt
      have hb4 := (hbw3.alloc hbs3 _).grown hg' (by simp; omega) (fun g hg => (hln g hg).1)
      have hp4 : DigIn w4 ⟨gp, 0, none⟩ 64 primes := by
        refine ⟨hp3.1, Nat.lt_of_lt_of_le hpl3 (Nat.le_trans (by simp) hg'.size), fun k hk => ?_⟩
        have h1 := (hp3.below ((Below.refl w3.heap.size w3).alloc (Nat.le_refl _) (.cells #[.int .u32 (k0.toNat : Int)] 117)) (Nat.le_refl _)).2.2 k hk
        exact hg'.cell h1 (fun e => by rw [add_blk] at e; exact hne gp e.symm rfl)
      have hne4 : ∀ g, v'.ownBlock = some g → g ≠ gp := fun g hg => by
        rcases hat' with e | e
        · exact hne g (e ▸ hg)
        · have e2 := Option.some.inj (hg.symm.trans e)
          have : gp < w3.heap.size := hpl3
          omega
      have ho4 : w4.ownsRow w.heap.size 117 1 v' (i + 1) (keyC (i + 1)) := by
        rw [hks.out]
        exact ho'
      clear ho3 hg' hp3 hbw3
      go_wp2_with fail
      go_roundw
      case rel => first | exact ⟨i + 1, by omega, by go_num, ho4, hp4, hne4, hb4⟩ | ((repeat apply Exists.intro); exact ⟨⟨i + 1, by omega, by go_num, ho4, hp4, hne4, hb4⟩, rfl⟩)
      case measure => simp [intOf]; omega
    · obtain rfl : i = 64 := by omega
      obtain ⟨g, rfl⟩ := own_some ho (by decide)
      have hK : KeyIn wr g := ⟨(ho.lt g rfl).2, fun k hk => by
        have := ho.cells (g := g) rfl k (w32 (Sha.key k)) (by
          unfold keyC
          rw [List.getElem?_map, List.getElem?_range hk]
          rfl)
        rw [Addr.add_mid, Nat.zero_add] at this
        exact this⟩
      go_wp2_with fail
      go_ret
      exact ⟨g, cap, rfl, hK, hbw⟩
end Go.Proofs.Ytmmkopdijmplcaa.RH
