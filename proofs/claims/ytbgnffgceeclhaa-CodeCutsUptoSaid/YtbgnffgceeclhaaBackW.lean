/-
  The walk of CodeBack: for every list of things within the bound the call returns true.
-/
import Derived.Test.YtbgnffgceeclhaaRows
import Derived.Test.YtbgnffgceeclhaaBase
import Derived.Test.YtbgnffgceeclhaaPut
import Derived.Test.YtbgnffgceeclhaaBits
import Derived.Test.YtbgnffgceeclhaaText
import Derived.Test.YtbgnffgceeclhaaReader
import Derived.Test.YtbgnffgceeclhaaFixed
import Derived.Test.YtbgnffgceeclhaaOps
import Derived.Test.YtbgnffgceeclhaaCallsV
import Derived.Test.YtbgnffgceeclhaaBackP
import Derived.Test.YtbgnffgceeclhaaThings
import Derived.Test.YtbgnffgceeclhaaLaid
import Derived.Test.YtbgnffgceeclhaaPlace
import Derived.Test.YtbgnffgceeclhaaMask
import Derived.Maps.AppendAt
import Derived.Deep.QuietTactic
import Derived.BigQuiet
import Derived.WalkSmall
import Derived.Deep.LoopGhost
import Derived.Deep.CutRange
import Derived.Deep.RegionLaw
import Derived.Deep.CutBlock
import Derived.Deep.RegionHeld3
namespace Go.Proofs.Ytbgnffgceeclhaa.back
open Go.RowKit Base Go.Lib
theorem put_v {w : World} {n k : Int} : Calls Try.prog 13 #[.int .i64 n, .int .i64 k] w fun e w' => e = .returned (.string (str (putL n k))) ∧ Below w.heap.size w w' := put_any n k w
theorem rdAt_grown {w w1 : World} {b : Nat} {r : Rd} {row : Option Nat} (h : RdAt w b r) (hg : w.grownBy w1 row) (hne : row ≠ some b) : RdAt w1 b r := ⟨(hg.block b h.cells.2.2 fun e => hne e.symm).trans h.blk, h.size, h.at_le⟩
theorem done_v {w : World} {b : Nat} {r : Rd} (h : RdAt w b r) {e p : Int} (he : r.doneE = e) (hp : r.doneP = p) : Calls Try.prog 20 #[.pointer (some ⟨b, 0, none⟩)] w fun x w' => ∃ n, x = .returned (.tuple #[.int .i64 e, .int .i64 p]) ∧ w' = w.drewN n := by
  subst he
  subst hp
  exact (done_any h).mono fun _ _ ⟨h1, n, h2⟩ => ⟨n, h1, h2⟩
theorem ba_ne {F : ByteArray} (h : F ≠ ⟨#[]⟩) : (F == (⟨#[]⟩ : ByteArray)) = false := by
  cases F with
  | mk d =>
    have hd : d ≠ #[] := fun e => h (by rw [e])
    show (d == #[]) = false
    exact beq_eq_false_iff_ne.2 hd
theorem toList_ne {F : ByteArray} (h : (F == (⟨#[]⟩ : ByteArray)) = false) : F.toList.isEmpty = false := by
  cases hl : F.toList with
  | nil =>
    exfalso
    have h2 : F.data.toList = [] := by rw [← hl, ByteArray.toList_eq]
    have h3 : F = ⟨#[]⟩ := by
      apply ba_ext
      rw [h2]
    subst h3
    cases h
  | cons => rfl
theorem ThingsIn.cells_at {W w : World} {p : Addr} {len k : Nat} {ps : List Th} (h : ThingsIn W (some p) len ps) (hk : k < len) (hb : Below W.heap.size W w) :
    w.cell? (p.add (k * 3)) = some (.int .i64 (ps.getD k th0).n) ∧ w.cell? ⟨(p.add (k * 3)).block, (p.add (k * 3)).off + 1, none⟩ = some (.int .i64 (ps.getD k th0).w) ∧ w.cell? ⟨(p.add (k * 3)).block, (p.add (k * 3)).off + 2, none⟩ = some (.string (ps.getD k th0).s) := by
  obtain ⟨a, e, hl, c0, c1, c2⟩ := h.2 k hk
  cases e
  have hb0 : (p.add (k * 3)).block < W.heap.size := by rw [add_block]; exact hl
  exact ⟨(hb.cell (p := p.add (k * 3)) hb0).trans c0, (hb.cell (p := ⟨(p.add (k * 3)).block, (p.add (k * 3)).off + 1, none⟩) hb0).trans c1, (hb.cell (p := ⟨(p.add (k * 3)).block, (p.add (k * 3)).off + 2, none⟩) hb0).trans c2⟩
theorem cell_three_new (w : World) (a b c : Value) (t : TypeId) : ∀ j u, [a, b, c][j]? = some u → (w.alloc (.cells #[a, b, c] t)).cell? ((⟨w.heap.size, 0, none⟩ : Addr).add j) = some u := by
  intro j u hj
  have hj3 : j < 3 := (List.getElem?_eq_some_iff.1 hj).1
  rcases (by omega : j = 0 ∨ j = 1 ∨ j = 2) with rfl | rfl | rfl <;> (simp at hj; subst hj; simp [Addr.add_lit])
theorem thing_one (t : Th) : ∀ u ∈ t.cells, u.oneCell' = true := by
  intro u hu
  unfold Th.cells at hu
  simp at hu
  rcases hu with rfl | rfl | rfl <;> rfl
set_option maxHeartbeats 20000000 in
set_option maxRecDepth 8000 in
theorem walk (W : World) {ao : Option Addr} {len cap : Nat} {ps : List Th} (hps : ThingsIn W ao len ps) (hlen : len ≤ 1048576) (hwf : ∀ t ∈ ps, t.wf) :
    Calls Try.prog 5 #[.slice ao len cap] W fun e w' => e = .returned (.bool true) ∧ Below W.heap.size W w' := by
  have hl := hps.1
  obtain ⟨i0, hi0, hz0, hy0, hx0⟩ := info_parts infoU8
  obtain ⟨i1, hi1, hz1, hy1, hx1⟩ := info_parts infoThing
  go_enter Try.func5, Try.ntmps5
  go_wp2_with fail
  have hb0 := ((Below.refl W.heap.size W).alloc (Nat.le_refl _) (.cells #[] 5)).alloc (by simp) (.cells #[] 34)
  have ho1 : (W.alloc (.cells #[] 5)).ownsRow W.heap.size 5 1 (.slice (some ⟨W.heap.size, 0, none⟩) 0 0) 0 [] := World.ownsRow_made W #[] 0 (Nat.le_refl _) (Nat.zero_le _) rfl
  have ho2 : ((W.alloc (.cells #[] 5)).alloc (.cells #[] 34)).ownsRow W.heap.size 34 3 (.slice (some ⟨(W.alloc (.cells #[] 5)).heap.size, 0, none⟩) 0 0) 0 [] := World.ownsRow_made _ #[] 0 (by simp) (Nat.zero_le _) rfl
  rw [World.size_alloc] at ho2
  replace ho1 := World.ownsRow.alloc ho1 (.cells #[] 34)
  generalize (W.alloc (.cells #[] 5)).alloc (.cells #[] 34) = w0 at *
  go_loopw [3, 4, 5] (fun v3 v4 i wr => ∃ k : Nat, k ≤ len ∧ i = .int .i64 k ∧ wr.ownsRow W.heap.size 5 1 v3 (formsL (keptL ps k)).length ((formsL (keptL ps k)).map bv) ∧ wr.ownsRow W.heap.size 34 3 v4 (keptL ps k).length ((keptL ps k).flatMap Th.cells) ∧ Below W.heap.size W wr) (fun _ _ i _ => len - (intOf i).toNat)
  case atStart => exact ⟨0, Nat.zero_le _, rfl, ho1, ho2, hb0⟩
  case round =>
    clear ho1 ho2 hb0
    obtain ⟨k, hk, rfl, ho1, ho2, hb⟩ := hrel
    by_cases hlt : k < len
    · have hklt : (k : Int) < len := by omega
      obtain ⟨p, t, rfl, hpb, ht, c0, c1, c2⟩ := (hps.below hb (Nat.le_refl _)).at_ hlt
      have hwt : t.wf := by
        rw [← ht, List.getD_eq_getElem?_getD, List.getElem?_eq_getElem (by omega)]
        exact hwf _ (List.getElem_mem _)
      have hstep := keptL_next (k := k) (by omega) ht
      have hkl := keptL_le ps k
      have hfl := formsL_le (keptL ps k)
      have hbs := hb.size
      have d0 : wr.drew.cell? (p.add (k * 3)) = some (.int .i64 t.n) := c0
      have d1 : wr.drew.cell? ⟨(p.add (k * 3)).block, (p.add (k * 3)).off + 1, none⟩ = some (.int .i64 t.w) := c1
      go_upto_region 6 with fail
      go_cut [6] from 19 to 58 (fun s6 wx => s6 = .string (str (putL t.n t.w)) ∧ Below wr.heap.size wr wx)
      case first =>
        go_region_law (go_simp
                       go_at_call 13
                       refine put_v.mono ?_
                       rintro e w2 ⟨rfl, hb2⟩
                       have hb3 : Below wr.heap.size wr w2 := ⟨hb2.os, hb2.tape, hb2.output, hb2.size, hb2.block⟩)
        all_goals
          go_wp2_with fail
          go_meet
          case rel => exact ⟨rfl, hb3⟩
      case rest =>
        obtain ⟨rfl, hb2⟩ := hcut
        have gb2 := grow_of_below hb2 none
        replace ho1 := owns_keep ho1 gb2 (fun g _ h => by cases h)
        replace ho2 := owns_keep ho2 gb2 (fun g _ h => by cases h)
        have e0 := (hb2.cell (p := p.add (k * 3)) (by rw [add_block]; exact hpb)).trans c0
        have e1 := (hb2.cell (p := ⟨(p.add (k * 3)).block, (p.add (k * 3)).off + 1, none⟩) (by show (p.add (k * 3)).block < _; rw [add_block]; exact hpb)).trans c1
        have e2 := (hb2.cell (p := ⟨(p.add (k * 3)).block, (p.add (k * 3)).off + 2, none⟩) (by show (p.add (k * 3)).block < _; rw [add_block]; exact hpb)).trans c2
        have hpb2 : p.block < wc.heap.size := by have := hb2.size; omega
        replace hb2 := hb.trans (hb2.mono hbs)
        clear c0 c1 c2 d0 d1 hb gb2
        generalize hF : str (putL t.n t.w) = F at *
        go_upto_if 37 with fail
        go_cut [6, 7] from 19 to 58 (fun s6 s7 wx => s6 = .string t.form ∧ s7 = .int .i64 (if t.num then 0 else textE t.s) ∧ Below wc.heap.size wc wx)
        case first =>
          by_cases hn : t.num
          · have hE : Hid ((if t.num then (0 : Int) else textE t.s) = 0) := if_pos hn
            have hFo : Hid (t.form = F) := by show _ = _; unfold Th.form; rw [if_pos hn, hF]
            have hne : (F == (⟨#[]⟩ : ByteArray)) = false := by
              refine ba_ne ?_
              rw [← hF]
              intro h
              obtain ⟨m, hm⟩ := Int.eq_ofNat_of_zero_le (show 0 ≤ t.w by have := hn.1; omega)
              have h1 := hn.1
              have h8 := hn.2
              rw [hm] at h h1 h8
              have := congrArg (fun s : ByteArray => s.data.toList.length) h
              rw [putL_is (by omega) (by omega)] at this
              simp only [str_toList, putTo_length] at this
              simp at this
              omega
            have hem : F.toList.isEmpty = false := toList_ne hne
            clear hn hF
            go_wp2_with fail
            all_goals first | exact absurd ((‹F.toList.isEmpty = true›).symm.trans hem) (by decide) | skip
            go_meet
            case rel => exact ⟨by rw [hFo.out], by rw [hE.out], Below.refl _ _⟩
          · have hE : Hid ((if t.num then (0 : Int) else textE t.s) = textE t.s) := if_neg hn
            have hFo : Hid (t.form = textL t.s) := by show _ = _; unfold Th.form; rw [if_neg hn]
            have hF0 : F = ⟨#[]⟩ := by
              rw [← hF]
              unfold putL
              rw [if_neg (show ¬ (1 ≤ t.w ∧ t.w ≤ 8) from hn)]
              rfl
            have hem : F.toList.isEmpty = true := by rw [hF0, ByteArray.toList_eq]; rfl
            clear hn hF hF0
            go_wp2_with fail
            all_goals first | exact absurd ((‹F.toList.isEmpty = false›).symm.trans hem) (by decide) | skip
            refine (putText_any t.s wc hwt.2.2).mono ?_
            rintro e w3 ⟨rfl, hb3⟩
            go_wp2_with fail
            go_meet
            case rel => exact ⟨by rw [hFo.out], by rw [hE.out], hb3⟩
        case rest =>
          obtain ⟨rfl, rfl, hb3⟩ := hcut
          have gb3 := grow_of_below hb3 none
          replace ho1 := owns_keep ho1 gb3 (fun g _ h => by cases h)
          replace ho2 := owns_keep ho2 gb3 (fun g _ h => by cases h)
          have f0 := (hb3.cell (p := p.add (k * 3)) (by rw [add_block]; exact hpb2)).trans e0
          have f1 := (hb3.cell (p := ⟨(p.add (k * 3)).block, (p.add (k * 3)).off + 1, none⟩) (by show (p.add (k * 3)).block < _; rw [add_block]; exact hpb2)).trans e1
          have f2 := (hb3.cell (p := ⟨(p.add (k * 3)).block, (p.add (k * 3)).off + 2, none⟩) (by show (p.add (k * 3)).block < _; rw [add_block]; exact hpb2)).trans e2
          replace hb3 := hb2.trans (hb3.mono hb2.size)
          clear e0 e1 e2 gb3 hb2 hpb2
          have hst := hstep
          cases hkept : t.kept with
          | false =>
            have hE : (if t.num then (0 : Int) else textE t.s) = 11 := by
              unfold Th.kept at hkept
              simp at hkept
              rw [if_neg hkept.1]
              unfold textE
              rw [if_neg (by omega)]
            rw [hE]
            rw [hkept] at hstep
            simp only [Bool.false_eq_true, if_false, List.append_nil] at hstep
            replace hstep := Lib.hid hstep
            clear hst
            go_wp2_with fail
            go_roundw
            case rel => exact ⟨k + 1, by omega, by go_num, by rw [hstep.out]; exact ho1, by rw [hstep.out]; exact ho2, hb3⟩
            case measure => simp [intOf]; omega
          | true =>
            have hE : (if t.num then (0 : Int) else textE t.s) = 0 := by
              unfold Th.kept at hkept
              by_cases hn : t.num
              · rw [if_pos hn]
              · simp [hn] at hkept
                rw [if_neg hn]
                unfold textE
                rw [if_pos hkept]
            rw [hE]
            rw [hkept] at hstep
            simp only [if_true] at hstep
            replace hstep := Lib.hid hstep
            clear hst
            have hfs := form_le (t := t)
            have hbs3 := hb3.size
            have hfl2 : (formsL (keptL ps k)).length ≤ 1075838976 := by
              have : (keptL ps k).length * 1026 ≤ 1048576 * 1026 := Nat.mul_le_mul_right _ (by omega)
              omega
            generalize hK : keptL ps k = K at *
            clear hE
            go_wp2_with (at_builtin; refine wpList_append_own_string _ rfl (.tmp 49) (.tmp 50) 30 9 rfl W.heap.size 5 i0 Try.underlying30 Try.underlying9 hi0 hz0 hy0 hx0 _ _ _ rfl ho1 _ rfl ?c1 ?c2 ?c3 ?_)
            case c1 => unfold maxLen; omega
            case c2 => omega
            case c3 => exact hbs3
            intro v5 w5 ho3 hg5 _
            have hb5 : Below W.heap.size W w5 := hb3.grown hg5 hbs3 (fun g' hg' => (ho1.lt g' hg').1)
            replace ho2 := owns_keep ho2 hg5 (fun g h2 h1 => rows_apart ho1 ho2 g h1 h2)
            clear ho1 hg5 hb3 f0 f1 f2 hbs3
            have hbs5 := hb5.size
            obtain ⟨f0, f1, f2⟩ := ThingsIn.cells_at hps hlt hb5
            rw [ht] at f0 f1 f2
            go_wp2_with (at_builtin; refine wpList_append_own _ rfl (.tmp 52) (.tmp 57) 32 rfl W.heap.size 34 i1 (.agg #[.int .i64 0, .int .i64 0, .string .empty]) 3 32 Try.underlying32 hi1 hz1 hy1 hx1 rfl (by decide) _ _ _ rfl (ho2.alloc _) ⟨w5.heap.size, 0, none⟩ 1 1 t.cells rfl rfl ?d1 (thing_one t) ?d3 ?d4 ?d5 ?_)
            case d1 => exact cell_three_new _ _ _ _ _
            case d3 => unfold maxLen; omega
            case d4 => omega
            case d5 => simp; omega
            intro v6 w6 ho4 hg6 _
            have hb6 : Below W.heap.size W w6 := (hb5.alloc hbs5 _).grown hg6 (by simp; omega) (fun g' hg' => (ho2.lt g' hg').1)
            have ho5 := owns_keep (ho3.alloc _) hg6 (fun g h1 h2 => rows_apart ho3 ho2 g h1 h2)
            have ho6 : w6.ownsRow W.heap.size 5 1 v5 (formsL (K ++ [t])).length ((formsL (K ++ [t])).map bv) := by
              rw [formsL_append, List.map_append, List.length_append, toList_size]
              exact ho5
            have ho7 : w6.ownsRow W.heap.size 34 3 v6 (K ++ [t]).length ((K ++ [t]).flatMap Th.cells) := by
              rw [List.length_append, List.flatMap_append, List.flatMap_singleton]
              exact ho4
            clear ho2 ho3 ho4 ho5 hg6 hb5 f0 f1 f2 hbs5
            go_wp2_with fail
            go_roundw
            case rel => exact ⟨k + 1, by omega, by go_num, by rw [hstep.out]; exact ho6, by rw [hstep.out]; exact ho7, hb6⟩
            case measure => simp [intOf]; omega
    · obtain rfl : k = len := by omega
      have hklt : ¬ ((k : Int) < k) := by omega
      have hnk : (keptL ps k).length ≤ 1048576 := by have := keptL_le ps k; omega
      have hkm : ∀ t ∈ keptL ps k, t.kept = true ∧ t.wf := fun t ht => ⟨(keptL_mem ht).1, hwf _ (keptL_mem ht).2⟩
      have hfl := formsL_le (keptL ps k)
      clear hps
      generalize keptL ps k = K at *
      obtain ⟨ao4, cap4, hv4, _, hth⟩ := things_of_owns ho2
      obtain ⟨ao3, cap3, hv3, _, _⟩ := owns_cells ho1
      obtain ⟨n3, hn3⟩ : ∃ n, (formsL K).length = n := ⟨_, rfl⟩
      obtain ⟨n4, hn4⟩ : ∃ n, K.length = n := ⟨_, rfl⟩
      have hn3m : n3 ≤ 1075838976 := by omega
      have hs0 : (str (formsL K)).size = n3 := by rw [str_size, hn3]
      have hs1 : (str (formsL K) ++ (⟨#[120]⟩ : ByteArray)).size = n3 + 1 := by rw [ByteArray.size_append, hs0]; rfl
      obtain ⟨S0, hS0⟩ : ∃ s, str (formsL K) = s := ⟨_, rfl⟩
      obtain ⟨S1, hS1⟩ : ∃ s, S0 ++ (⟨#[120]⟩ : ByteArray) = s := ⟨_, rfl⟩
      have hd0 : S0.data.toList = formsL K ++ [] := by rw [← hS0, str_toList, List.append_nil]
      have hd1 : S1.data.toList = formsL K ++ [120] := by rw [← hS1, ← hS0, ByteArray.data_append]; simp [str]
      rw [hn4] at hv4 hth hnk
      rw [hn3] at hv3
      rw [hS0] at hs0 hs1
      rw [hS1] at hs1
      have hbk : ∀ w', Below wr.heap.size wr w' → (convert 30 9 u3).run Try.prog w' = .ok (.string S0) w' := fun w' hb' => by
        rw [← hS0]
        exact run_back w' 30 9 5 Try.underlying30 Try.underlying5 Try.underlying9 (owns_keep ho1 (grow_of_below hb' none) (fun g _ h => by cases h))
      subst hv3
      subst hv4
      replace hn3 := Lib.hid hn3
      replace hn4 := Lib.hid hn4
      replace hS0 := Lib.hid hS0
      replace hS1 := Lib.hid hS1
      replace hs0 := Lib.hid hs0
      replace hs1 := Lib.hid hs1
      replace hd0 := Lib.hid hd0
      replace hd1 := Lib.hid hd1
      replace hbk := Lib.hid hbk
      replace hl := Lib.hid hl
      obtain ⟨wD, rfl⟩ : ∃ w : World, w = wr := ⟨_, rfl⟩
      have hcc : ¬ (9223372036854775807 < S0.size + 1) := by have := hs0.out; omega
      have hm0 : S0.size ≤ maxLen := by have := hs0.out; unfold maxLen; omega
      have hm1 : S1.size ≤ maxLen := by have := hs1.out; unfold maxLen; omega
      have hbd : Below wD.heap.size wD wD.drew := (Below.refl _ _).drew
      clear ho1 ho2 hfl
      go_upto_region 13 with fail
      go_cut [8, 9] from 59 to 65 (fun s8 s9 wx => ∃ b1 b2 : Nat, s8 = .pointer (some ⟨b1, 0, none⟩) ∧ s9 = .pointer (some ⟨b2, 0, none⟩) ∧ RdAt wx b1 ⟨S0, 0, 0⟩ ∧ RdAt wx b2 ⟨S1, 0, 0⟩ ∧ b1 ≠ b2 ∧ wD.heap.size ≤ b1 ∧ wD.heap.size ≤ b2 ∧ Below wD.heap.size wD wx)
      case first =>
        go_region_held3 (fun w' => (convert 30 9 (.slice ao3 n3 cap3)).run Try.prog w' = .ok (.string S0) w')
          (first | exact hbk.out _ (by assumption))
          (first
            | (go_at_call 17
               (with_reducible refine (new_any S0 _ hm0).mono ?_)
               rintro e wA ⟨rfl, hrA, hbA', hzA⟩
               have hbA : Below wD.heap.size wD wA := (‹Below wD.heap.size wD _›).trans (hbA'.mono (‹Below wD.heap.size wD _›).size)
               try have hrB2 := rdAt_below hrB hbA')
            | (go_at_call 17
               rw [hS1.out]
               (with_reducible refine (new_any S1 _ hm1).mono ?_)
               rintro e wB ⟨rfl, hrB, hbB', hzB⟩
               have hbB : Below wD.heap.size wD wB := (‹Below wD.heap.size wD _›).trans (hbB'.mono (‹Below wD.heap.size wD _›).size)
               try have hrA2 := rdAt_below hrA hbB'))
        have hzA' : wA.heap.size = wD.heap.size + 1 := hzA
        have hrA3 : RdAt wB wD.heap.size ⟨S0, 0, 0⟩ := hrA2
        have hrB3 : RdAt wB (wD.heap.size + 1) ⟨S1, 0, 0⟩ := by rw [← hzA']; exact hrB
        clear hrA2 hrB hrA hzA hzB hbA' hbB' hbA hbd
        go_wp2_with fail
        go_meet
        case rel => exact ⟨wD.heap.size, wD.heap.size + 1, rfl, rfl, hrA3, hrB3, by omega, Nat.le_refl _, by omega, hbB⟩
      case rest =>
        obtain ⟨b1, b2, rfl, rfl, hr1, hr2, hne, hb1, hb2, hbc⟩ := hcut
        have hWb := hb.size
        clear hbd hcc hm0 hm1 hbk
        have hDc := hbc.size
        go_wp2_with fail
        refine (fixed_any wc).mono ?_
        rintro e w4 ⟨rfl, hb4'⟩
        replace hr1 := rdAt_below hr1 hb4'
        replace hr2 := rdAt_below hr2 hb4'
        have hb4 := hbc.trans (hb4'.mono hDc)
        clear hb4' hbc hDc
        go_wp2_with fail
        have hp0 := posL_zero K
        go_loopw [10] (fun i wl => ∃ j : Nat, j ≤ n4 ∧ i = .int .i64 j ∧ RdAt wl b1 ⟨S0, posL K j, 0⟩ ∧ RdAt wl b2 ⟨S1, posL K j, 0⟩ ∧ Below wD.heap.size wD wl) (fun i _ => n4 - (intOf i).toNat)
        case atStart => exact ⟨0, Nat.zero_le _, rfl, hr1, hr2, hb4⟩
        case round =>
          clear hr1 hr2 hb4 hp0
          obtain ⟨j, hj, rfl, hr1, hr2, hbl⟩ := hrel
          have hbs := hbl.size
          by_cases hlt2 : j < n4
          · have hlt3 : (j : Int) < n4 := by omega
            have hjK : j < K.length := by rw [hn4.out]; exact hlt2
            obtain ⟨p, t, rfl, hpb, ht, c0, c1, c2⟩ := (hth.below hbl (Nat.le_refl _)).at_ hlt2
            obtain ⟨hkp, hwt⟩ := hkm t (by rw [← ht]; exact getD_mem hjK)
            have hA : t.num → (⟨S0, posL K j, 0⟩ : Rd).numV t.w = (if t.w < 8 then t.n % 256 ^ t.w.toNat else t.n) ∧ (⟨S0, posL K j, 0⟩ : Rd).numR t.w = ⟨S0, posL K (j + 1), 0⟩ := fun hn => at_num hd0.out hjK ht hwt hn
            have hB : t.num → (⟨S1, posL K j, 0⟩ : Rd).numV t.w = (if t.w < 8 then t.n % 256 ^ t.w.toNat else t.n) ∧ (⟨S1, posL K j, 0⟩ : Rd).numR t.w = ⟨S1, posL K (j + 1), 0⟩ := fun hn => at_num hd1.out hjK ht hwt hn
            have hC : ¬ t.num → (⟨S0, posL K j, 0⟩ : Rd).textV 1024 = t.s ∧ (⟨S0, posL K j, 0⟩ : Rd).textR 1024 = ⟨S0, posL K (j + 1), 0⟩ := fun hn => at_text hd0.out hjK ht hkp hn
            have hD : ¬ t.num → (⟨S1, posL K j, 0⟩ : Rd).textV 1024 = t.s ∧ (⟨S1, posL K j, 0⟩ : Rd).textR 1024 = ⟨S1, posL K (j + 1), 0⟩ := fun hn => at_text hd1.out hjK ht hkp hn
            replace ht := Lib.hid ht
            replace hA := Lib.hid hA
            replace hB := Lib.hid hB
            replace hC := Lib.hid hC
            replace hD := Lib.hid hD
            obtain ⟨rA, hrA⟩ : ∃ r : Rd, (⟨S0, posL K j, 0⟩ : Rd) = r := ⟨_, rfl⟩
            obtain ⟨rB, hrB⟩ : ∃ r : Rd, (⟨S1, posL K j, 0⟩ : Rd) = r := ⟨_, rfl⟩
            rw [hrA] at hr1 hA hC
            rw [hrB] at hr2 hB hD
            clear hrA hrB
            clear hkm
            obtain ⟨tn, tw, ts⟩ := t
            go_upto_region 20 with fail
            have e0 : (wr.alloc (.cells #[.int .i64 tn, .int .i64 tw, .string ts] 34)).cell? ⟨wr.heap.size, 0, none⟩ = some (.int .i64 tn) := World.cell?_alloc_new wr _ _ 0
            have e1 : (wr.alloc (.cells #[.int .i64 tn, .int .i64 tw, .string ts] 34)).cell? ⟨wr.heap.size, 1, none⟩ = some (.int .i64 tw) := World.cell?_alloc_new wr _ _ 1
            have e2 : (wr.alloc (.cells #[.int .i64 tn, .int .i64 tw, .string ts] 34)).cell? ⟨wr.heap.size, 2, none⟩ = some (.string ts) := World.cell?_alloc_new wr _ _ 2
            have hba := (Below.refl wr.heap.size wr).alloc (Nat.le_refl _) (.cells #[.int .i64 tn, .int .i64 tw, .string ts] 34)
            have hr1a := rdAt_below hr1 hba
            have hr2a := rdAt_below hr2 hba
            have hbla := hbl.alloc hbs (.cells #[.int .i64 tn, .int .i64 tw, .string ts] 34)
            have hbsa := hbla.size
            have hg1 : wr.heap.size ≠ b1 := by have := hr1.cells.2.2; omega
            have hg2 : wr.heap.size ≠ b2 := by have := hr2.cells.2.2; omega
            clear c0 c1 c2 hba hr1 hr2 hbl hbs
            generalize wr.alloc (.cells #[.int .i64 tn, .int .i64 tw, .string ts] 34) = w1 at *
            generalize wr.heap.size = gt at *
            have hgo1 : some gt ≠ some b1 := fun e => hg1 (Option.some.inj e)
            have hgo2 : some gt ≠ some b2 := fun e => hg2 (Option.some.inj e)
            by_cases hnum : 1 ≤ tw ∧ tw ≤ 8
            · obtain ⟨hA1, hA2⟩ := hA.out hnum
              obtain ⟨hB1, hB2⟩ := hB.out hnum
              obtain ⟨h1, h8⟩ := hnum
              obtain ⟨z, hz⟩ : ∃ z, (if tw < 8 then tn % 256 ^ tw.toNat else tn) = z := ⟨_, rfl⟩
              rw [show (if (⟨tn, tw, ts⟩ : Th).w < 8 then (⟨tn, tw, ts⟩ : Th).n % 256 ^ (⟨tn, tw, ts⟩ : Th).w.toNat else (⟨tn, tw, ts⟩ : Th).n) = z from hz] at hA1 hB1
              have ht1 : ¬ tw < 1 := by omega
              have ht8 : ¬ 8 < tw := by omega
              have htd : decide (tw < 1) = false := by simpa using ht1
              replace hA1 := Lib.hid hA1
              replace hA2 := Lib.hid hA2
              replace hB1 := Lib.hid hB1
              replace hB2 := Lib.hid hB2
              replace hz := Lib.hid hz
              clear hA hB hC hD
              go_upto_if 110 with fail
              go_cut [12] from 108 to 118 (fun s12 wx => s12 = .int .i64 z ∧ ∃ q, w1.drewN q = wx)
              case first =>
                by_cases hw8 : tw < 8
                · obtain ⟨m, rfl⟩ := Int.eq_ofNat_of_zero_le (show 0 ≤ tw by omega)
                  have hm8 : m < 8 := by omega
                  have q1 : (0 : Int) ≤ 8 * (m : Int) := by omega
                  have q2 : 8 * (m : Int) < 64 := by omega
                  have q3 : IntKind.i64.wrap (8 * (m : Int)) = 8 * (m : Int) := IntWalk.i64_in _ (by omega)
                  have q4 : (8 * (m : Int)).toNat = 8 * m := by omega
                  go_wp2_with fail
                  have hz2 : Hid (bits .and .i64 tn (wrap64 (wrap64 (2 ^ (8 * m)) - 1)) = z) := by
                    show _ = _
                    rw [masked tn m hm8, ← hz.out, if_pos hw8, Int.toNat_natCast]
                  go_quiet (fail)
                  rw [hz2.out]
                  go_wp2_with fail
                  go_meet
                  case rel => exact ⟨rfl, nq, rfl⟩
                · have hz2 : Hid (tn = z) := by
                    show _ = _
                    rw [← hz.out, if_neg hw8]
                  go_wp2_with fail
                  go_meet
                  case rel => exact ⟨by rw [hz2.out], 0, rfl⟩
              case rest =>
                obtain ⟨rfl, q, rfl⟩ := hcut
                replace hr1a := rdAt_drewN hr1a q
                replace hr2a := rdAt_drewN hr2a q
                replace hbla := below_drewN hbla q
                replace e1 : (w1.drewN q).cell? ⟨gt, 1, none⟩ = some (.int .i64 tw) := e1
                replace hbsa : wD.heap.size ≤ (w1.drewN q).heap.size := hbsa
                clear e0 e2
                generalize w1.drewN q = w2 at *
                go_wp2_with fail
                (with_reducible refine (num_v hr1a hA1.out).mono ?_)
                rintro e w3 ⟨rfl, hr3, hg3⟩
                have hr2b := rdAt_grown hr2a hg3 (fun e => hne (Option.some.inj e))
                have e1b := hg3.cell e1 hgo1
                have hb3 := below_grow hbla hg3 hbsa hb1
                have hbs3 := hb3.size
                rw [hA2.out] at hr3
                clear hr1a hr2a hbla hg3 e1 hbsa
                go_wp2_with fail
                (with_reducible refine (num_v hr2b hB1.out).mono ?_)
                rintro e w4 ⟨rfl, hr4, hg4⟩
                have hr3b := rdAt_grown hr3 hg4 (fun e => hne (Option.some.inj e).symm)
                have hb4 := below_grow hb3 hg4 hbs3 hb2
                rw [hB2.out] at hr4
                clear hr3 hr2b hb3 hg4 e1b hbs3
                go_wp2_with fail
                go_roundw
                case rel => first | exact ⟨j + 1, by omega, by go_num, hr3b, hr4, hb4⟩ | ((repeat apply Exists.intro); exact ⟨⟨j + 1, by omega, by go_num, hr3b, hr4, hb4⟩, rfl⟩)
                case measure => simp [intOf]; omega
            · have hnum' : ¬ (⟨tn, tw, ts⟩ : Th).num := hnum
              obtain ⟨hC1, hC2⟩ := hC.out hnum'
              obtain ⟨hD1, hD2⟩ := hD.out hnum'
              change rA.textV 1024 = ts at hC1
              change rB.textV 1024 = ts at hD1
              replace hC1 := Lib.hid hC1
              replace hC2 := Lib.hid hC2
              replace hD1 := Lib.hid hD1
              replace hD2 := Lib.hid hD2
              replace hnum := Lib.hid hnum
              clear hA hB hC hD hnum' e0
              go_cut [93] from 86 to 93 (fun s93 wx => s93 = .bool true ∧ w1 = wx)
              case first =>
                by_cases ht1 : tw < 1
                · have htd : decide (tw < 1) = true := by simpa using ht1
                  go_wp2_with fail
                  go_meet
                  case rel => exact ⟨rfl, rfl⟩
                · have ht8 : 8 < tw := by have := hnum.out; omega
                  have htd : decide (tw < 1) = false := by simpa using ht1
                  go_wp2_with fail
                  go_meet
                  case rel => exact ⟨rfl, rfl⟩
              case rest =>
                obtain ⟨rfl, rfl⟩ := hcut
                have e2d : w1.drew.cell? ⟨gt, 2, none⟩ = some (.string ts) := e2
                have hr1d := rdAt_drew hr1a
                have hr2d := rdAt_drew hr2a
                have hbld := hbla.drew
                have hbsd : wD.heap.size ≤ w1.drew.heap.size := hbsa
                go_upto_region 21 with fail
                go_region_held3 (fun w' => w'.cell? ⟨gt, 2, none⟩ = some (.string ts))
                  (first | exact e2d | exact e2b | exact e2c)
                  (first
                    | (go_at_call 18
                       (with_reducible refine (text_v hr1d hC1.out).mono ?_)
                       rintro e w3 ⟨rfl, hr3, hg3⟩
                       have hr2b := rdAt_grown hr2d hg3 (fun e => hne (Option.some.inj e))
                       have e2b := hg3.cell e2d hgo1
                       have hb3 := below_grow hbld hg3 hbsd hb1
                       have hbs3 := hb3.size)
                    | (go_at_call 18
                       (with_reducible refine (text_v hr2b hD1.out).mono ?_)
                       rintro e w4 ⟨rfl, hr4, hg4⟩
                       have hr3b := rdAt_grown hr3 hg4 (fun e => hne (Option.some.inj e).symm)
                       have e2c := hg4.cell e2b hgo2
                       have hb4 := below_grow hb3 hg4 hbs3 hb2))
                rw [hC2.out] at hr3b
                rw [hD2.out] at hr4
                go_wp2_with fail
                go_roundw
                case rel => first | exact ⟨j + 1, by omega, by go_num, hr3b, hr4, hb4⟩ | ((repeat apply Exists.intro); exact ⟨⟨j + 1, by omega, by go_num, hr3b, hr4, hb4⟩, rfl⟩)
                case measure => simp [intOf]; omega
          · obtain rfl : j = n4 := by omega
            have hlt3 : ¬ (j : Int) < j := by omega
            have hpe : posL K j = n3 := by rw [← hn4.out, posL_all, hn3.out]
            rw [hpe] at hr1 hr2
            have q1 : Hid ((⟨S0, n3, 0⟩ : Rd).doneE = 0) := by
              show _ = _
              unfold Rd.doneE
              have := hs0.out
              simp
              omega
            have q2 : Hid ((⟨S0, n3, 0⟩ : Rd).doneP = 0) := by
              show _ = _
              unfold Rd.doneP
              have := hs0.out
              simp
              omega
            have q3 : Hid ((⟨S1, n3, 0⟩ : Rd).doneE = 12) := by
              show _ = _
              unfold Rd.doneE
              have := hs1.out
              simp
              omega
            have q4 : Hid ((⟨S1, n3, 0⟩ : Rd).doneP = (n3 : Int)) := by
              show _ = _
              unfold Rd.doneP
              have := hs1.out
              simp
              omega
            replace hpe := Lib.hid hpe
            clear hkm hth
            go_wp2_with fail
            (with_reducible refine (done_v hr1 q1.out q2.out).mono ?_)
            rintro e w5 ⟨qn1, rfl, rfl⟩
            replace hr2 := rdAt_drewN hr2 qn1
            replace hbl := below_drewN hbl qn1
            clear hr1
            generalize wr.drewN qn1 = w5 at *
            go_wp2_with fail
            (with_reducible refine (done_v hr2 q3.out q4.out).mono ?_)
            rintro e w6 ⟨qn2, rfl, rfl⟩
            replace hbl := below_drewN hbl qn2
            generalize w5.drewN qn2 = w6 at *
            go_wp2_with fail
            go_ret
            exact ⟨rfl, hb.trans (hbl.mono hWb)⟩
end Go.Proofs.Ytbgnffgceeclhaa.back
