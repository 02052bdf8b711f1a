/-
  The walk of CodeCuts: for every list of things within the bound, and every cut, the call returns true.
-/
import Derived.Test.YtbgnffgceeclhaaRows
import Derived.Test.YtbgnffgceeclhaaBase
import Derived.Test.YtbgnffgceeclhaaPut
import Derived.Test.YtbgnffgceeclhaaBits
import Derived.Test.YtbgnffgceeclhaaText
import Derived.Test.YtbgnffgceeclhaaReader
import Derived.Test.YtbgnffgceeclhaaFixed
import Derived.Test.YtbgnffgceeclhaaOps
import Derived.Test.YtbgnffgceeclhaaCallsV
import Derived.Test.YtbgnffgceeclhaaBackP
import Derived.Test.YtbgnffgceeclhaaThings
import Derived.Test.YtbgnffgceeclhaaLaid
import Derived.Test.YtbgnffgceeclhaaPlace
import Derived.Test.YtbgnffgceeclhaaMask
import Derived.Test.YtbgnffgceeclhaaBackW
import Derived.Test.YtbgnffgceeclhaaCutsP
import Derived.Maps.AppendAt
import Derived.Deep.QuietTactic
import Derived.BigQuiet
import Derived.WalkSmall
import Derived.Deep.LoopGhost
import Derived.Deep.CutRange
import Derived.Deep.RegionLaw
import Derived.Deep.CutBlock
import Derived.Deep.RegionHeld3
namespace Go.Proofs.Ytbgnffgceeclhaa.cuts
open Go.RowKit Base Go.Lib
open back (put_v rdAt_grown done_v ba_ne toList_ne ThingsIn.cells_at cell_three_new thing_one)
theorem cell_one_new (w : World) (a : Value) (t : TypeId) : ∀ j u, [a][j]? = some u → (w.alloc (.cells #[a] t)).cell? ((⟨w.heap.size, 0, none⟩ : Addr).add j) = some u := by
  intro j u hj
  have hj3 : j < 1 := (List.getElem?_eq_some_iff.1 hj).1
  obtain rfl : j = 0 := by omega
  simp at hj
  subst hj
  simp [Addr.add_lit]
theorem at_b {w : World} {b : Nat} {r : Rd} (h : RdAt w b r) (w' : World) (hb : Below w.heap.size w w') : Calls Try.prog 21 #[.pointer (some ⟨b, 0, none⟩)] w' fun e w'' => e = .returned (.int .i64 ((r.at_ : Nat) : Int)) ∧ w' = w'' :=
  at_v (rdAt_below h hb) rfl
theorem put_b {w : World} {n k : Int} {t : ByteArray} (ht : Hid (str (putL n k) = t)) (w' : World) (hb : Below w.heap.size w w') : Calls Try.prog 13 #[.int .i64 n, .int .i64 k] w' fun e w'' => e = .returned (.string t) ∧ Below w.heap.size w w'' :=
  put_v.mono fun _ _ ⟨he, hx⟩ => ⟨by rw [he, ht.out], hb.trans (hx.mono hb.size)⟩
set_option maxHeartbeats 20000000 in
set_option maxRecDepth 8000 in
theorem walk (W : World) {ao : Option Addr} {len cap : Nat} {ps : List Th} (hps : ThingsIn W ao len ps) (hlen : len ≤ 1048576) (hwf : ∀ t ∈ ps, t.wf) (cut : Int) :
    Calls Try.prog 8 #[.slice ao len cap, .int .i64 cut] W fun e w' => e = .returned (.bool true) ∧ Below W.heap.size W w' := by
  have hl := hps.1
  obtain ⟨i0, hi0, hz0, hy0, hx0⟩ := info_parts infoU8
  obtain ⟨i1, hi1, hz1, hy1, hx1⟩ := info_parts infoThing
  obtain ⟨i2, hi2, hz2, hy2, hx2⟩ := info_parts infoInt
  go_enter Try.func8, Try.ntmps8
  go_wp2_with fail
  have hb0 := (((Below.refl W.heap.size W).alloc (Nat.le_refl _) (.cells #[] 5)).alloc (by simp) (.cells #[] 34)).alloc (by simp; omega) (.cells #[] 3)
  have ho1 : (W.alloc (.cells #[] 5)).ownsRow W.heap.size 5 1 (.slice (some ⟨W.heap.size, 0, none⟩) 0 0) 0 [] := World.ownsRow_made W #[] 0 (Nat.le_refl _) (Nat.zero_le _) rfl
  have ho2 : ((W.alloc (.cells #[] 5)).alloc (.cells #[] 34)).ownsRow W.heap.size 34 3 (.slice (some ⟨(W.alloc (.cells #[] 5)).heap.size, 0, none⟩) 0 0) 0 [] := World.ownsRow_made _ #[] 0 (by simp) (Nat.zero_le _) rfl
  have hoi : (((W.alloc (.cells #[] 5)).alloc (.cells #[] 34)).alloc (.cells #[] 3)).ownsRow W.heap.size 3 1 (.slice (some ⟨((W.alloc (.cells #[] 5)).alloc (.cells #[] 34)).heap.size, 0, none⟩) 0 0) 0 [] := World.ownsRow_made _ #[] 0 (by simp; omega) (Nat.zero_le _) rfl
  simp only [World.size_alloc] at ho2 hoi
  replace ho1 := World.ownsRow.alloc (World.ownsRow.alloc ho1 (.cells #[] 34)) (.cells #[] 3)
  replace ho2 := World.ownsRow.alloc ho2 (.cells #[] 3)
  generalize ((W.alloc (.cells #[] 5)).alloc (.cells #[] 34)).alloc (.cells #[] 3) = w0 at *
  go_loopw [5, 6, 7, 8] (fun v3 v4 v5 i wr => ∃ k : Nat, k ≤ len ∧ i = .int .i64 k ∧ wr.ownsRow W.heap.size 5 1 v3 (formsL (keptL ps k)).length ((formsL (keptL ps k)).map bv) ∧ wr.ownsRow W.heap.size 34 3 v4 (keptL ps k).length ((keptL ps k).flatMap Th.cells) ∧ wr.ownsRow W.heap.size 3 1 v5 (keptL ps k).length (endsL (keptL ps k)) ∧ Below W.heap.size W wr) (fun _ _ _ i _ => len - (intOf i).toNat)
  case atStart => exact ⟨0, Nat.zero_le _, rfl, ho1, ho2, hoi, hb0⟩
  case round =>
    clear ho1 ho2 hoi hb0
    obtain ⟨k, hk, rfl, ho1, ho2, hoi, hb⟩ := hrel
    by_cases hlt : k < len
    · have hklt : (k : Int) < len := by omega
      obtain ⟨p, t, rfl, hpb, ht, c0, c1, c2⟩ := (hps.below hb (Nat.le_refl _)).at_ hlt
      have hwt : t.wf := by
        rw [← ht, List.getD_eq_getElem?_getD, List.getElem?_eq_getElem (by omega)]
        exact hwf _ (List.getElem_mem _)
      have hstep := keptL_next (k := k) (by omega) ht
      have hkl := keptL_le ps k
      have hfl := formsL_le (keptL ps k)
      have hbs := hb.size
      have d0 : wr.drew.cell? (p.add (k * 3)) = some (.int .i64 t.n) := c0
      have d1 : wr.drew.cell? ⟨(p.add (k * 3)).block, (p.add (k * 3)).off + 1, none⟩ = some (.int .i64 t.w) := c1
      go_upto_region 7 with fail
      go_cut [9] from 22 to 66 (fun s6 wx => s6 = .string (str (putL t.n t.w)) ∧ Below wr.heap.size wr wx)
      case first =>
        go_region_law (go_simp
                       go_at_call 13
                       refine put_v.mono ?_
                       rintro e w2 ⟨rfl, hb2⟩
                       have hb3 : Below wr.heap.size wr w2 := ⟨hb2.os, hb2.tape, hb2.output, hb2.size, hb2.block⟩)
        all_goals
          go_wp2_with fail
          go_meet
          case rel => exact ⟨rfl, hb3⟩
      case rest =>
        obtain ⟨rfl, hb2⟩ := hcut
        have gb2 := grow_of_below hb2 none
        replace ho1 := owns_keep ho1 gb2 (fun g _ h => by cases h)
        replace ho2 := owns_keep ho2 gb2 (fun g _ h => by cases h)
        replace hoi := owns_keep hoi gb2 (fun g _ h => by cases h)
        have e0 := (hb2.cell (p := p.add (k * 3)) (by rw [add_block]; exact hpb)).trans c0
        have e1 := (hb2.cell (p := ⟨(p.add (k * 3)).block, (p.add (k * 3)).off + 1, none⟩) (by show (p.add (k * 3)).block < _; rw [add_block]; exact hpb)).trans c1
        have e2 := (hb2.cell (p := ⟨(p.add (k * 3)).block, (p.add (k * 3)).off + 2, none⟩) (by show (p.add (k * 3)).block < _; rw [add_block]; exact hpb)).trans c2
        have hpb2 : p.block < wc.heap.size := by have := hb2.size; omega
        replace hb2 := hb.trans (hb2.mono hbs)
        clear c0 c1 c2 d0 d1 hb gb2
        generalize hF : str (putL t.n t.w) = F at *
        go_upto_if 40 with fail
        go_cut [9, 10] from 22 to 66 (fun s6 s7 wx => s6 = .string t.form ∧ s7 = .int .i64 (if t.num then 0 else textE t.s) ∧ Below wc.heap.size wc wx)
        case first =>
          by_cases hn : t.num
          · have hE : Hid ((if t.num then (0 : Int) else textE t.s) = 0) := if_pos hn
            have hFo : Hid (t.form = F) := by show _ = _; unfold Th.form; rw [if_pos hn, hF]
            have hne : (F == (⟨#[]⟩ : ByteArray)) = false := by
              refine ba_ne ?_
              rw [← hF]
              intro h
              obtain ⟨m, hm⟩ := Int.eq_ofNat_of_zero_le (show 0 ≤ t.w by have := hn.1; omega)
              have h1 := hn.1
              have h8 := hn.2
              rw [hm] at h h1 h8
              have := congrArg (fun s : ByteArray => s.data.toList.length) h
              rw [putL_is (by omega) (by omega)] at this
              simp only [str_toList, putTo_length] at this
              simp at this
              omega
            have hem : F.toList.isEmpty = false := toList_ne hne
            clear hn hF
            go_wp2_with fail
            all_goals first | exact absurd ((‹F.toList.isEmpty = true›).symm.trans hem) (by decide) | skip
            go_meet
            case rel => exact ⟨by rw [hFo.out], by rw [hE.out], Below.refl _ _⟩
          · have hE : Hid ((if t.num then (0 : Int) else textE t.s) = textE t.s) := if_neg hn
            have hFo : Hid (t.form = textL t.s) := by show _ = _; unfold Th.form; rw [if_neg hn]
            have hF0 : F = ⟨#[]⟩ := by
              rw [← hF]
              unfold putL
              rw [if_neg (show ¬ (1 ≤ t.w ∧ t.w ≤ 8) from hn)]
              rfl
            have hem : F.toList.isEmpty = true := by rw [hF0, ByteArray.toList_eq]; rfl
            clear hn hF hF0
            go_wp2_with fail
            all_goals first | exact absurd ((‹F.toList.isEmpty = false›).symm.trans hem) (by decide) | skip
            refine (putText_any t.s wc hwt.2.2).mono ?_
            rintro e w3 ⟨rfl, hb3⟩
            go_wp2_with fail
            go_meet
            case rel => exact ⟨by rw [hFo.out], by rw [hE.out], hb3⟩
        case rest =>
          obtain ⟨rfl, rfl, hb3⟩ := hcut
          have gb3 := grow_of_below hb3 none
          replace ho1 := owns_keep ho1 gb3 (fun g _ h => by cases h)
          replace ho2 := owns_keep ho2 gb3 (fun g _ h => by cases h)
          replace hoi := owns_keep hoi gb3 (fun g _ h => by cases h)
          have f0 := (hb3.cell (p := p.add (k * 3)) (by rw [add_block]; exact hpb2)).trans e0
          have f1 := (hb3.cell (p := ⟨(p.add (k * 3)).block, (p.add (k * 3)).off + 1, none⟩) (by show (p.add (k * 3)).block < _; rw [add_block]; exact hpb2)).trans e1
          have f2 := (hb3.cell (p := ⟨(p.add (k * 3)).block, (p.add (k * 3)).off + 2, none⟩) (by show (p.add (k * 3)).block < _; rw [add_block]; exact hpb2)).trans e2
          replace hb3 := hb2.trans (hb3.mono hb2.size)
          clear e0 e1 e2 gb3 hb2 hpb2
          have hst := hstep
          cases hkept : t.kept with
          | false =>
            have hE : (if t.num then (0 : Int) else textE t.s) = 11 := by
              unfold Th.kept at hkept
              simp at hkept
              rw [if_neg hkept.1]
              unfold textE
              rw [if_neg (by omega)]
            rw [hE]
            rw [hkept] at hstep
            simp only [Bool.false_eq_true, if_false, List.append_nil] at hstep
            replace hstep := Lib.hid hstep
            clear hst
            go_wp2_with fail
            go_roundw
            case rel => exact ⟨k + 1, by omega, by go_num, by rw [hstep.out]; exact ho1, by rw [hstep.out]; exact ho2, by rw [hstep.out]; exact hoi, hb3⟩
            case measure => simp [intOf]; omega
          | true =>
            have hE : (if t.num then (0 : Int) else textE t.s) = 0 := by
              unfold Th.kept at hkept
              by_cases hn : t.num
              · rw [if_pos hn]
              · simp [hn] at hkept
                rw [if_neg hn]
                unfold textE
                rw [if_pos hkept]
            rw [hE]
            rw [hkept] at hstep
            simp only [if_true] at hstep
            replace hstep := Lib.hid hstep
            clear hst
            have hfs := form_le (t := t)
            have hbs3 := hb3.size
            have hfl2 : (formsL (keptL ps k)).length ≤ 1075838976 := by
              have : (keptL ps k).length * 1026 ≤ 1048576 * 1026 := Nat.mul_le_mul_right _ (by omega)
              omega
            generalize hK : keptL ps k = K at *
            clear hE
            go_wp2_with (at_builtin; refine wpList_append_own_string _ rfl (.tmp 52) (.tmp 53) 30 9 rfl W.heap.size 5 i0 Try.underlying30 Try.underlying9 hi0 hz0 hy0 hx0 _ _ _ rfl ho1 _ rfl ?c1 ?c2 ?c3 ?_)
            case c1 => unfold maxLen; omega
            case c2 => omega
            case c3 => exact hbs3
            intro v5 w5 ho3 hg5 _
            have hb5 : Below W.heap.size W w5 := hb3.grown hg5 hbs3 (fun g' hg' => (ho1.lt g' hg').1)
            replace ho2 := owns_keep ho2 hg5 (fun g h2 h1 => rows_apart ho1 ho2 g h1 h2)
            replace hoi := owns_keep hoi hg5 (fun g h2 h1 => rows_apart_i ho1 hoi g h1 h2)
            clear ho1 hg5 hb3 f0 f1 f2 hbs3
            have hbs5 := hb5.size
            obtain ⟨f0, f1, f2⟩ := ThingsIn.cells_at hps hlt hb5
            rw [ht] at f0 f1 f2
            go_wp2_with (at_builtin; refine wpList_append_own _ rfl (.tmp 55) (.tmp 60) 32 rfl W.heap.size 34 i1 (.agg #[.int .i64 0, .int .i64 0, .string .empty]) 3 32 Try.underlying32 hi1 hz1 hy1 hx1 rfl (by decide) _ _ _ rfl (ho2.alloc _) ⟨w5.heap.size, 0, none⟩ 1 1 t.cells rfl rfl ?d1 (thing_one t) ?d3 ?d4 ?d5 ?_)
            case d1 => exact cell_three_new _ _ _ _ _
            case d3 => unfold maxLen; omega
            case d4 => omega
            case d5 => simp; omega
            intro v6 w6 ho4 hg6 _
            have hb6 : Below W.heap.size W w6 := (hb5.alloc hbs5 _).grown hg6 (by simp; omega) (fun g' hg' => (ho2.lt g' hg').1)
            have ho5 := owns_keep (ho3.alloc _) hg6 (fun g h1 h2 => rows_apart ho3 ho2 g h1 h2)
            have ho6 : w6.ownsRow W.heap.size 5 1 v5 (formsL (K ++ [t])).length ((formsL (K ++ [t])).map bv) := by
              rw [formsL_append, List.map_append, List.length_append, toList_size]
              exact ho5
            have ho7 : w6.ownsRow W.heap.size 34 3 v6 (K ++ [t]).length ((K ++ [t]).flatMap Th.cells) := by
              rw [List.length_append, List.flatMap_append, List.flatMap_singleton]
              exact ho4
            have hoj := owns_keep (hoi.alloc _) hg6 (fun g h1 h2 => rows_apart_t ho2 hoi g h2 h1)
            clear ho2 ho3 ho4 ho5 hoi hg6 hb5 f0 f1 f2 hbs5
            have hbs6 := hb6.size
            obtain ⟨ao6, cap6, rfl, hm6, _⟩ := owns_cells ho6
            go_wp2_with (at_builtin; refine wpList_append_own _ rfl (.tmp 62) (.tmp 65) 48 rfl W.heap.size 3 i2 (.int .i64 0) 1 8 Try.underlying48 hi2 hz2 hy2 hx2 rfl (by decide) _ _ _ rfl (hoj.alloc _) ⟨w6.heap.size, 0, none⟩ 1 1 [.int .i64 (formsL (K ++ [t])).length] rfl rfl ?d1 (one_cell _ rfl) ?d3 ?d4 ?d5 ?_)
            case d1 => exact cell_one_new _ _ _
            case d3 => unfold maxLen; omega
            case d4 => omega
            case d5 => simp; omega
            intro v7 w7 ho8 hg7 _
            have hb7 : Below W.heap.size W w7 := (hb6.alloc hbs6 _).grown hg7 (by simp; omega) (fun g' hg' => (hoj.lt g' hg').1)
            have ho9 := owns_keep (ho6.alloc _) hg7 (fun g h1 h2 => rows_apart_i ho6 hoj g h1 h2)
            have ho10 := owns_keep (ho7.alloc _) hg7 (fun g h1 h2 => rows_apart_t ho7 hoj g h1 h2)
            have ho11 : w7.ownsRow W.heap.size 3 1 v7 (K ++ [t]).length (endsL (K ++ [t])) := by
              rw [endsL_snoc, List.length_append]
              exact ho8
            clear ho6 ho7 ho8 hoj hg7 hb6 hbs6 hm6
            go_wp2_with fail
            go_roundw
            case rel => exact ⟨k + 1, by omega, by go_num, by rw [hstep.out]; exact ho9, by rw [hstep.out]; exact ho10, by rw [hstep.out]; exact ho11, hb7⟩
            case measure => simp [intOf]; omega
    · obtain rfl : k = len := by omega
      have hklt : ¬ ((k : Int) < k) := by omega
      have hnk : (keptL ps k).length ≤ 1048576 := by have := keptL_le ps k; omega
      have hkm : ∀ t ∈ keptL ps k, t.kept = true ∧ t.wf := fun t ht => ⟨(keptL_mem ht).1, hwf _ (keptL_mem ht).2⟩
      have hfl := formsL_le (keptL ps k)
      clear hps
      generalize keptL ps k = K at *
      go_wp2_with fail
      (with_reducible refine (fixed_any wr).mono ?_)
      rintro e w1 ⟨rfl, hb1⟩
      have gb1 := grow_of_below hb1 none
      replace ho1 := owns_keep ho1 gb1 (fun g _ h => by cases h)
      replace ho2 := owns_keep ho2 gb1 (fun g _ h => by cases h)
      replace hoi := owns_keep hoi gb1 (fun g _ h => by cases h)
      replace hb := hb.trans (hb1.mono hb.size)
      clear hb1 gb1
      obtain ⟨ao3, cap3, rfl, hm3, _⟩ := owns_cells ho1
      obtain ⟨ao4, cap4, rfl, _, hth⟩ := things_of_owns ho2
      obtain ⟨ao5, cap5, rfl, _, _⟩ := owns_cells hoi
      have hn3m : (formsL K).length ≤ 1075838976 := by omega
      by_cases hneg : cut < 0
      · have hcd : decide (cut < 0) = true := by simpa using hneg
        go_wp2_with fail
        go_ret
        exact ⟨rfl, hb⟩
      have hcd : decide (cut < 0) = false := by simpa using hneg
      obtain ⟨c, rfl⟩ := Int.eq_ofNat_of_zero_le (show 0 ≤ cut by omega)
      by_cases hcl : c < (formsL K).length
      · have hcd2 : decide (((formsL K).length : Int) ≤ (c : Int)) = false := by simp; omega
        have hcd3 : ¬ (((formsL K).length : Int) ≤ (c : Int)) := by omega
        obtain ⟨g3, rfl, hcp3, hcv⟩ := cut_back ho1 (c := c) (by omega) (by omega)
        have hKpos : 0 < K.length := by
          cases K with
          | nil => simp [formsL] at hcl
          | cons => simp
        obtain ⟨g5, rfl, hg5, hce⟩ := ends_cell hoi hKpos
        obtain ⟨Sc, hSc⟩ : ∃ s, str ((formsL K).take c) = s := ⟨_, rfl⟩
        have hcv0 := hcv w1 (Below.refl _ _) cap3
        rw [hSc] at hcv0
        have hS : Sc.data.toList = (formsL K).take c := by rw [← hSc, str_toList]
        have hSz : Sc.size ≤ maxLen := by
          have := cut_size hS (by omega)
          unfold maxLen
          omega
        obtain ⟨n3, hn3⟩ : ∃ n, (formsL K).length = n := ⟨_, rfl⟩
        obtain ⟨n4, hn4⟩ : ∃ n, K.length = n := ⟨_, rfl⟩
        have hc3 : c ≤ cap3 := by omega
        have hc3i : (c : Int) ≤ (cap3 : Int) := by omega
        rw [hn3] at hcl hcd2 hcd3 hcp3 hm3 hn3m ⊢
        rw [hn4] at hth hce hKpos ⊢
        have hSL : c ≤ (formsL K).length := by omega
        have hn4m : n4 ≤ 1048576 := by omega
        replace hn3 := Lib.hid hn3
        replace hn4 := Lib.hid hn4
        replace hS := Lib.hid hS
        replace hSL := Lib.hid hSL
        replace hkm := Lib.hid hkm
        replace hce := Lib.hid hce
        clear ho1 ho2 hoi hSc hcv hfl hnk
        go_wp2_with fail
        (with_reducible refine (new_any Sc _ hSz).mono ?_)
        rintro e wA ⟨rfl, hr, hbA, _⟩
        have hWb := hb.size
        have hAb := hbA.size
        obtain ⟨b1, hb1⟩ : ∃ b, w1.heap.size = b := ⟨_, rfl⟩
        have hg5w := hg5
        rw [hb1] at hr hg5 ⊢
        have hb1l : w1.heap.size ≤ b1 := by omega
        replace hb1 := Lib.hid hb1
        go_wp2_with fail
        have hp0 := posL_zero K
        go_loopw [12] (fun i wl => ∃ j : Nat, j ≤ n4 ∧ i = .int .i64 j ∧ RdAt wl b1 ⟨Sc, posL K j, 0⟩ ∧ posL K j ≤ c ∧ Below w1.heap.size w1 wl) (fun i _ => n4 - (intOf i).toNat)
        case atStart => exact ⟨0, Nat.zero_le _, rfl, hr, by rw [hp0]; exact Nat.zero_le _, hbA⟩
        case round =>
          clear hr hbA hp0 hAb
          obtain ⟨j, hj, rfl, hr, hpc, hbl⟩ := hrel
          have hbs := hbl.size
          by_cases hlt2 : j < n4
          · have hlt3 : (j : Int) < n4 := by omega
            have hjK : j < K.length := by rw [hn4.out]; exact hlt2
            obtain ⟨p, t, rfl, hpb, ht, c0, c1, c2⟩ := (hth.below hbl (Nat.le_refl _)).at_ hlt2
            obtain ⟨hkp, hwt⟩ := hkm.out t (by rw [← ht]; exact getD_mem hjK)
            have hA : t.num → _ := fun hn => cut_num hS.out hSL.out hjK ht hwt hn hpc
            have hC : ¬ t.num → _ := fun hn => cut_text hS.out hSL.out hjK ht hkp hn hpc
            have hP := put_same t
            have hce1 := hce.out j hlt2
            have hce0 : 0 < j → w1.cell? ⟨g5, j - 1, none⟩ = some (.int .i64 (posL K j)) := fun h => by
              have := hce.out (j - 1) (by omega)
              rw [show j - 1 + 1 = j from by omega] at this
              exact this
            obtain ⟨pj, hpj⟩ : ∃ n, posL K j = n := ⟨_, rfl⟩
            obtain ⟨pk, hpk⟩ : ∃ n, posL K (j + 1) = n := ⟨_, rfl⟩
            rw [hpj] at hr hA hC hce0 hpc
            rw [hpk] at hA hC hce1
            replace ht := Lib.hid ht
            replace hA := Lib.hid hA
            replace hC := Lib.hid hC
            replace hP := Lib.hid hP
            obtain ⟨tn, tw, ts⟩ := t
            go_upto_region 26 with fail
            have e0 : (wr.alloc (.cells #[.int .i64 tn, .int .i64 tw, .string ts] 34)).cell? ⟨wr.heap.size, 0, none⟩ = some (.int .i64 tn) := World.cell?_alloc_new wr _ _ 0
            have e1 : (wr.alloc (.cells #[.int .i64 tn, .int .i64 tw, .string ts] 34)).cell? ⟨wr.heap.size, 1, none⟩ = some (.int .i64 tw) := World.cell?_alloc_new wr _ _ 1
            have e2 : (wr.alloc (.cells #[.int .i64 tn, .int .i64 tw, .string ts] 34)).cell? ⟨wr.heap.size, 2, none⟩ = some (.string ts) := World.cell?_alloc_new wr _ _ 2
            have hgl : wr.heap.size < (wr.alloc (.cells #[.int .i64 tn, .int .i64 tw, .string ts] 34)).heap.size := by simp
            have hba := (Below.refl wr.heap.size wr).alloc (Nat.le_refl _) (.cells #[.int .i64 tn, .int .i64 tw, .string ts] 34)
            have hra := rdAt_below hr hba
            have hbla := hbl.alloc hbs (.cells #[.int .i64 tn, .int .i64 tw, .string ts] 34)
            have hbsa := hbla.size
            have hg1 : wr.heap.size ≠ b1 := by have := hr.cells.2.2; omega
            have hg51 : g5 ≠ b1 := by omega
            have hce1a := (hbla.cell (p := ⟨g5, j, none⟩) hg5w).trans hce1
            have hce0a : 0 < j → _ := fun h => (hbla.cell (p := ⟨g5, j - 1, none⟩) hg5w).trans (hce0 h)
            have hpc0 : j = 0 → pj = 0 := fun h => by rw [← hpj, h]; exact posL_zero K
            clear c0 c1 c2 hba hr hbl hbs hce1 hce0
            replace hpj := Lib.hid hpj
            replace hpk := Lib.hid hpk
            replace hkp := Lib.hid hkp
            replace hwt := Lib.hid hwt
            generalize wr.alloc (.cells #[.int .i64 tn, .int .i64 tw, .string ts] 34) = w2 at *
            generalize wr.heap.size = gt at *
            have hgo1 : some gt ≠ some b1 := fun e => hg1 (Option.some.inj e)
            have hgo5 : some g5 ≠ some b1 := fun e => hg51 (Option.some.inj e)
            go_upto_if 95 with fail
            go_cut [14] from 84 to 185 (fun s14 wx => s14 = .int .i64 pj ∧ w2 = wx)
            case first =>
              by_cases hj0 : 0 < j
              · have hcj := hce0a hj0
                have hji : (0 : Int) < (j : Int) := by omega
                obtain ⟨m, hm⟩ : ∃ m, j - 1 = m := ⟨_, rfl⟩
                have hjw : IntKind.i64.wrap ((j : Int) - 1) = (m : Int) := by rw [IntWalk.i64_in _ (by omega)]; omega
                have hjm : (m : Int) < (n4 : Int) := by omega
                have hmn : m < n4 := by omega
                rw [hm] at hcj
                clear hA hC hP hce0a hm
                go_wp2_with fail
                go_meet
                case rel => exact ⟨rfl, rfl⟩
              · have hj1 : j = 0 := by omega
                have hji : ¬ (0 : Int) < (j : Int) := by omega
                have hp0 := Lib.hid (hpc0 hj1)
                clear hA hC hP hce0a hj1
                go_wp2_with fail
                go_meet
                case rel => exact ⟨by rw [hp0.out]; rfl, rfl⟩
            case rest =>
              obtain ⟨rfl, rfl⟩ := hcut
              clear hce0a hpc0
              by_cases hnum : 1 ≤ tw ∧ tw ≤ 8
              · obtain ⟨hAw, hAs⟩ := hA.out hnum
                have hPn := hP.out hnum
                obtain ⟨h1, h8⟩ := hnum
                have ht1 : ¬ tw < 1 := by omega
                have ht8 : ¬ 8 < tw := by omega
                have htd : decide (tw < 1) = false := by simpa using ht1
                have htd2 : decide (1 ≤ tw) = true := by simpa using h1
                have htd3 : decide (tw ≤ 8) = true := by simpa using h8
                obtain ⟨z, hz⟩ : ∃ z, (if tw < 8 then tn % 256 ^ tw.toNat else tn) = z := ⟨_, rfl⟩
                rw [show (if (⟨tn, tw, ts⟩ : Th).w < 8 then (⟨tn, tw, ts⟩ : Th).n % 256 ^ (⟨tn, tw, ts⟩ : Th).w.toNat else (⟨tn, tw, ts⟩ : Th).n) = z from hz] at hAw hPn
                change str (putL z tw) = str (putL tn tw) at hPn
                obtain ⟨T, hT⟩ : ∃ T, str (putL tn tw) = T := ⟨_, rfl⟩
                rw [hT] at hPn
                replace hz := Lib.hid hz
                replace hT := Lib.hid hT
                replace hPn := Lib.hid hPn
                clear hA hC hP
                by_cases hwh : pk ≤ c
                · obtain ⟨hA1, hA2⟩ := hAw hwh
                  have hwi : ¬ ((c : Int) < (pk : Int)) := by omega
                  replace hA1 := Lib.hid hA1
                  replace hA2 := Lib.hid hA2
                  clear hAw hAs
                  go_wp2_with fail
                  (with_reducible refine (num_v hra hA1.out).mono ?_)
                  rintro e w3 ⟨rfl, hr3, hg3⟩
                  replace e0 := hg3.cell e0 hgo1
                  replace e1 := hg3.cell e1 hgo1
                  replace e2 := hg3.cell e2 hgo1
                  replace hce1a := hg3.cell hce1a hgo5
                  have hb3 := below_grow hbla hg3 hbsa hb1l
                  have hbs3 := hb3.size
                  have hgtl3 : gt < w3.heap.size := by have := hg3.size; omega
                  rw [hA2.out] at hr3
                  clear hra hbla hg3 hbsa hgl
                  obtain ⟨x, hx⟩ : ∃ x, (⟨Sc, pk, 0⟩ : Rd).doneE = x := ⟨_, rfl⟩
                  obtain ⟨y, hy⟩ : ∃ x, (⟨Sc, pk, 0⟩ : Rd).doneP = x := ⟨_, rfl⟩
                  replace hx := Lib.hid hx
                  replace hy := Lib.hid hy
                  go_wp2_with fail
                  (with_reducible refine (done_v hr3 hx.out hy.out).mono ?_)
                  rintro e w5 ⟨qn, rfl, rfl⟩
                  have hr5 := rdAt_drewN hr3 qn
                  replace hb3 := below_drewN hb3 qn
                  replace e0 : (w3.drewN qn).cell? _ = _ := e0
                  replace e1 : (w3.drewN qn).cell? _ = _ := e1
                  replace e2 : (w3.drewN qn).cell? _ = _ := e2
                  replace hce1a : (w3.drewN qn).cell? _ = _ := hce1a
                  have hgtl : gt < (w3.drewN qn).heap.size := hgtl3
                  have hg5l : g5 < (w3.drewN qn).heap.size := by have := hr5.cells.2.2; omega
                  clear hr3 hbs3 hgtl3
                  generalize w3.drewN qn = w5 at *
                  go_wp2_with fail
                  have hcs : Hid (∀ w', Below w5.heap.size w5 w' → w'.cell? ⟨gt, 0, none⟩ = some (.int .i64 tn) ∧ w'.cell? ⟨gt, 1, none⟩ = some (.int .i64 tw) ∧ w'.cell? ⟨gt, 2, none⟩ = some (.string ts) ∧ w'.cell? ⟨g5, j, none⟩ = some (.int .i64 pk)) := fun w' h => ⟨(h.cell (p := ⟨gt, 0, none⟩) hgtl).trans e0, (h.cell (p := ⟨gt, 1, none⟩) hgtl).trans e1, (h.cell (p := ⟨gt, 2, none⟩) hgtl).trans e2, (h.cell (p := ⟨g5, j, none⟩) hg5l).trans hce1a⟩
                  have hat := Lib.hid (at_b hr5)
                  have hbd : Below w5.heap.size w5 w5.drew := (Below.refl _ _).drew
                  have hr6 := Lib.hid (fun w' => rdAt_below (w1 := w') hr5)
                  clear e0 e1 e2 hce1a hr5
                  have s1 : ((⟨#[]⟩ : ByteArray) == ⟨#[]⟩) = true := rfl
                  have s2 : ((⟨#[]⟩ : ByteArray) != ⟨#[]⟩) = false := rfl
                  have s3 : ((pk : Int) != (pk : Int)) = false := bne_self_eq_false _
                  have hP1 := Lib.hid (put_b (w := w5) (n := z) (k := tw) hPn)
                  have hP2 := Lib.hid (put_b (w := w5) (n := tn) (k := tw) hT)
                  refine wp_region_held_drew (S := fun w' => w'.cell? ⟨gt, 0, none⟩ = some (.int .i64 tn) ∧ w'.cell? ⟨gt, 1, none⟩ = some (.int .i64 tw) ∧ w'.cell? ⟨gt, 2, none⟩ = some (.string ts) ∧ w'.cell? ⟨g5, j, none⟩ = some (.int .i64 pk)) (by kernel_rfl) ?_ (fun hHeld => ?_)
                  · exact hcs.out _ (by assumption)
                  refine wpAnyH_take (i := 0) (v := ?vv1) rfl (by kernel_rfl) (by kernel_rfl) (by kernel_rfl) (fun _ _ _ h => h) (Or.inl ⟨by rfl, ?hy1⟩) (by assumption) ?re1
                  case hy1 => (intro w hSw; (try dsimp only at hSw); go_simp; try with_reducible rfl)
                  (try simp only [Act.put, List.getElem_toArray, List.getElem_cons_zero, List.setIfInBounds_toArray, List.set_cons_zero, List.set_cons_succ])
                  refine wpAnyH_take (i := 2) (v := ?vv2) rfl (by kernel_rfl) (by kernel_rfl) (by kernel_rfl) (fun _ _ _ h => h) (Or.inl ⟨by rfl, ?hy2⟩) (by assumption) ?re2
                  case hy2 => (intro w hSw; (try dsimp only at hSw); go_simp; try with_reducible rfl)
                  (try simp only [Act.put, List.getElem_toArray, List.getElem_cons_succ, List.getElem_cons_zero, List.setIfInBounds_toArray, List.set_cons_zero, List.set_cons_succ])
                  refine wpAnyH_take (i := 3) (v := ?vv3) rfl (by kernel_rfl) (by kernel_rfl) (by kernel_rfl) (fun _ _ _ h => h) (Or.inl ⟨by rfl, ?hy3⟩) (by assumption) ?re3
                  case hy3 => (intro w hSw; (try dsimp only at hSw); go_simp; try with_reducible rfl)
                  (try simp only [Act.put, List.getElem_toArray, List.getElem_cons_succ, List.getElem_cons_zero, List.setIfInBounds_toArray, List.set_cons_zero, List.set_cons_succ])
                  refine wpAnyH_take (i := 4) (v := ?vv4) rfl (by kernel_rfl) (by kernel_rfl) (by kernel_rfl) (fun _ _ _ h => h) (Or.inl ⟨by rfl, ?hy4⟩) (by assumption) ?re4
                  case hy4 => (intro w hSw; (try dsimp only at hSw); go_simp; try with_reducible rfl)
                  (try simp only [Act.put, List.getElem_toArray, List.getElem_cons_succ, List.getElem_cons_zero, List.setIfInBounds_toArray, List.set_cons_zero, List.set_cons_succ])
                  refine wpAnyH_take (i := 5) (v := ?vv5) rfl (by kernel_rfl) (by kernel_rfl) (by kernel_rfl) (fun _ _ _ h => h) (Or.inl ⟨by rfl, ?hy5⟩) (by assumption) ?re5
                  case hy5 => (intro w hSw; (try dsimp only at hSw); go_simp; try with_reducible rfl)
                  (try simp only [Act.put, List.getElem_toArray, List.getElem_cons_succ, List.getElem_cons_zero, List.setIfInBounds_toArray, List.set_cons_zero, List.set_cons_succ])
                  refine wpAnyH_ready (rs := [1]) (by kernel_rfl) (by simp) ?_
                  refine AllReadyH.cons (i := 1) rfl (fun K hK => ?_) AllReadyH.nil
                  go_simp
                  (go_at_call 21; (with_reducible refine (hat.out _ (by assumption)).mono ?_); rintro e wA ⟨rfl, rfl⟩)
                  go_wp2_with fail
                  refine hK.out _ _ ?_ (fun hHeld => ?_)
                  · exact hcs.out _ (by assumption)
                  clear hK K
                  (try simp only [Act.put, List.getElem_toArray, List.getElem_cons_succ, List.getElem_cons_zero, List.setIfInBounds_toArray, List.set_cons_zero, List.set_cons_succ])
                  refine wpAnyH_take (i := 6) (v := ?vv6) rfl (by kernel_rfl) (by kernel_rfl) (by kernel_rfl) (fun _ _ _ h => h) (Or.inl ⟨by rfl, ?hy6⟩) (by assumption) ?re6
                  case hy6 => (intro w hSw; (try dsimp only at hSw); go_simp; try with_reducible rfl)
                  (try simp only [Act.put, List.getElem_toArray, List.getElem_cons_succ, List.getElem_cons_zero, List.setIfInBounds_toArray, List.set_cons_zero, List.set_cons_succ])
                  refine wpAnyH_take (i := 7) (v := ?vv7) rfl (by kernel_rfl) (by kernel_rfl) (by kernel_rfl) (fun _ _ _ h => h) (Or.inl ⟨by rfl, ?hy7⟩) (by assumption) ?re7
                  case hy7 => (intro w hSw; (try dsimp only at hSw); go_simp; try with_reducible rfl)
                  (try simp only [Act.put, List.getElem_toArray, List.getElem_cons_succ, List.getElem_cons_zero, List.setIfInBounds_toArray, List.set_cons_zero, List.set_cons_succ])
                  refine wpAnyH_take (i := 8) (v := ?vv8) rfl (by kernel_rfl) (by kernel_rfl) (by kernel_rfl) (fun _ _ _ h => h) (Or.inl ⟨by rfl, ?hy8⟩) (by assumption) ?re8
                  case hy8 => (intro w hSw; (try dsimp only at hSw); go_simp; try with_reducible rfl)
                  (try simp only [Act.put, List.getElem_toArray, List.getElem_cons_succ, List.getElem_cons_zero, List.setIfInBounds_toArray, List.set_cons_zero, List.set_cons_succ])
                  refine wpAnyH_take (i := 9) (v := ?vv9) rfl (by kernel_rfl) (by kernel_rfl) (by kernel_rfl) (fun _ _ _ h => h) (Or.inl ⟨by rfl, ?hy9⟩) (by assumption) ?re9
                  case hy9 => (intro w hSw; (try dsimp only at hSw); go_simp; try with_reducible rfl)
                  (try simp only [Act.put, List.getElem_toArray, List.getElem_cons_succ, List.getElem_cons_zero, List.setIfInBounds_toArray, List.set_cons_zero, List.set_cons_succ])
                  refine wpAnyH_take (i := 10) (v := ?vv10) rfl (by kernel_rfl) (by kernel_rfl) (by kernel_rfl) (fun _ _ _ h => h) (Or.inl ⟨by rfl, ?hy10⟩) (by assumption) ?re10
                  case hy10 => (intro w hSw; (try dsimp only at hSw); go_simp; try with_reducible rfl)
                  (try simp only [Act.put, List.getElem_toArray, List.getElem_cons_succ, List.getElem_cons_zero, List.setIfInBounds_toArray, List.set_cons_zero, List.set_cons_succ])
                  refine wpAnyH_take (i := 11) (v := undef) rfl (by kernel_rfl) (by kernel_rfl) (by kernel_rfl) (fun _ _ _ h => h) (Or.inr ⟨by rfl, rfl⟩) (by assumption) ?_
                  (try simp only [Act.put, List.getElem_toArray, List.getElem_cons_succ, List.getElem_cons_zero, List.setIfInBounds_toArray, List.set_cons_zero, List.set_cons_succ])
                  refine wpAnyH_take (i := 12) (v := undef) rfl (by kernel_rfl) (by kernel_rfl) (by kernel_rfl) (fun _ _ _ h => h) (Or.inr ⟨by rfl, rfl⟩) (by assumption) ?_
                  (try simp only [Act.put, List.getElem_toArray, List.getElem_cons_succ, List.getElem_cons_zero, List.setIfInBounds_toArray, List.set_cons_zero, List.set_cons_succ])
                  refine wpAnyH_take (i := 13) (v := undef) rfl (by kernel_rfl) (by kernel_rfl) (by kernel_rfl) (fun _ _ _ h => h) (Or.inr ⟨by rfl, rfl⟩) (by assumption) ?_
                  (try simp only [Act.put, List.getElem_toArray, List.getElem_cons_succ, List.getElem_cons_zero, List.setIfInBounds_toArray, List.set_cons_zero, List.set_cons_succ])
                  refine wpAnyH_take (i := 14) (v := undef) rfl (by kernel_rfl) (by kernel_rfl) (by kernel_rfl) (fun _ _ _ h => h) (Or.inr ⟨by rfl, rfl⟩) (by assumption) ?_
                  (try simp only [Act.put, List.getElem_toArray, List.getElem_cons_succ, List.getElem_cons_zero, List.setIfInBounds_toArray, List.set_cons_zero, List.set_cons_succ])
                  refine wpAnyH_take (i := 15) (v := ?vv11) rfl (by kernel_rfl) (by kernel_rfl) (by kernel_rfl) (fun _ _ _ h => h) (Or.inl ⟨by rfl, ?hy11⟩) (by assumption) ?re11
                  case hy11 => (intro w hSw; (try dsimp only at hSw); go_simp; try with_reducible rfl)
                  (try simp only [Act.put, List.getElem_toArray, List.getElem_cons_succ, List.getElem_cons_zero, List.setIfInBounds_toArray, List.set_cons_zero, List.set_cons_succ])
                  refine wpAnyH_take (i := 16) (v := ?vv12) rfl (by kernel_rfl) (by kernel_rfl) (by kernel_rfl) (fun _ _ _ h => h) (Or.inl ⟨by rfl, ?hy12⟩) (by assumption) ?re12
                  case hy12 => (intro w hSw; (try dsimp only at hSw); go_simp; try with_reducible rfl)
                  (try simp only [Act.put, List.getElem_toArray, List.getElem_cons_succ, List.getElem_cons_zero, List.setIfInBounds_toArray, List.set_cons_zero, List.set_cons_succ])
                  refine wpAnyH_take (i := 17) (v := ?vv13) rfl (by kernel_rfl) (by kernel_rfl) (by kernel_rfl) (fun _ _ _ h => h) (Or.inl ⟨by rfl, ?hy13⟩) (by assumption) ?re13
                  case hy13 => (intro w hSw; (try dsimp only at hSw); go_simp; try with_reducible rfl)
                  (try simp only [Act.put, List.getElem_toArray, List.getElem_cons_succ, List.getElem_cons_zero, List.setIfInBounds_toArray, List.set_cons_zero, List.set_cons_succ])
                  refine wpAnyH_take (i := 18) (v := ?vv14) rfl (by kernel_rfl) (by kernel_rfl) (by kernel_rfl) (fun _ _ _ h => h) (Or.inl ⟨by rfl, ?hy14⟩) (by assumption) ?re14
                  case hy14 => (intro w hSw; (try dsimp only at hSw); go_simp; try with_reducible rfl)
                  (try simp only [Act.put, List.getElem_toArray, List.getElem_cons_succ, List.getElem_cons_zero, List.setIfInBounds_toArray, List.set_cons_zero, List.set_cons_succ])
                  refine wpAnyH_take (i := 19) (v := ?vv15) rfl (by kernel_rfl) (by kernel_rfl) (by kernel_rfl) (fun _ _ _ h => h) (Or.inl ⟨by rfl, ?hy15⟩) (by assumption) ?re15
                  case hy15 => (intro w hSw; (try dsimp only at hSw); go_simp; try with_reducible rfl)
                  (try simp only [Act.put, List.getElem_toArray, List.getElem_cons_succ, List.getElem_cons_zero, List.setIfInBounds_toArray, List.set_cons_zero, List.set_cons_succ])
                  refine wpAnyH_take (i := 20) (v := ?vv16) rfl (by kernel_rfl) (by kernel_rfl) (by kernel_rfl) (fun _ _ _ h => h) (Or.inl ⟨by rfl, ?hy16⟩) (by assumption) ?re16
                  case hy16 => (intro w hSw; (try dsimp only at hSw); go_simp; try with_reducible rfl)
                  (try simp only [Act.put, List.getElem_toArray, List.getElem_cons_succ, List.getElem_cons_zero, List.setIfInBounds_toArray, List.set_cons_zero, List.set_cons_succ])
                  refine wpAnyH_take (i := 21) (v := ?vv17) rfl (by kernel_rfl) (by kernel_rfl) (by kernel_rfl) (fun _ _ _ h => h) (Or.inl ⟨by rfl, ?hy17⟩) (by assumption) ?re17
                  case hy17 => (intro w hSw; (try dsimp only at hSw); go_simp; try with_reducible rfl)
                  (try simp only [Act.put, List.getElem_toArray, List.getElem_cons_succ, List.getElem_cons_zero, List.setIfInBounds_toArray, List.set_cons_zero, List.set_cons_succ])
                  refine wpAnyH_take (i := 22) (v := ?vv18) rfl (by kernel_rfl) (by kernel_rfl) (by kernel_rfl) (fun _ _ _ h => h) (Or.inl ⟨by rfl, ?hy18⟩) (by assumption) ?re18
                  case hy18 => (intro w hSw; (try dsimp only at hSw); go_simp; try with_reducible rfl)
                  (try simp only [Act.put, List.getElem_toArray, List.getElem_cons_succ, List.getElem_cons_zero, List.setIfInBounds_toArray, List.set_cons_zero, List.set_cons_succ])
                  refine wpAnyH_take (i := 23) (v := ?vv19) rfl (by kernel_rfl) (by kernel_rfl) (by kernel_rfl) (fun _ _ _ h => h) (Or.inl ⟨by rfl, ?hy19⟩) (by assumption) ?re19
                  case hy19 => (intro w hSw; (try dsimp only at hSw); go_simp; try with_reducible rfl)
                  (try simp only [Act.put, List.getElem_toArray, List.getElem_cons_succ, List.getElem_cons_zero, List.setIfInBounds_toArray, List.set_cons_zero, List.set_cons_succ])
                  refine wpAnyH_take (i := 24) (v := ?vv20) rfl (by kernel_rfl) (by kernel_rfl) (by kernel_rfl) (fun _ _ _ h => h) (Or.inl ⟨by rfl, ?hy20⟩) (by assumption) ?re20
                  case hy20 => (intro w hSw; (try dsimp only at hSw); go_simp; try with_reducible rfl)
                  (try simp only [Act.put, List.getElem_toArray, List.getElem_cons_succ, List.getElem_cons_zero, List.setIfInBounds_toArray, List.set_cons_zero, List.set_cons_succ])
                  refine wpAnyH_take (i := 25) (v := ?vv21) rfl (by kernel_rfl) (by kernel_rfl) (by kernel_rfl) (fun _ _ _ h => h) (Or.inl ⟨by rfl, ?hy21⟩) (by assumption) ?re21
                  case hy21 => (intro w hSw; (try dsimp only at hSw); go_simp; try with_reducible rfl)
                  (try simp only [Act.put, List.getElem_toArray, List.getElem_cons_succ, List.getElem_cons_zero, List.setIfInBounds_toArray, List.set_cons_zero, List.set_cons_succ])
                  refine wpAnyH_take (i := 26) (v := ?vv22) rfl (by kernel_rfl) (by kernel_rfl) (by kernel_rfl) (fun _ _ _ h => h) (Or.inl ⟨by rfl, ?hy22⟩) (by assumption) ?re22
                  case hy22 => (intro w hSw; (try dsimp only at hSw); go_simp; try with_reducible rfl)
                  (try simp only [Act.put, List.getElem_toArray, List.getElem_cons_succ, List.getElem_cons_zero, List.setIfInBounds_toArray, List.set_cons_zero, List.set_cons_succ])
                  refine wpAnyH_take (i := 27) (v := ?vv23) rfl (by kernel_rfl) (by kernel_rfl) (by kernel_rfl) (fun _ _ _ h => h) (Or.inl ⟨by rfl, ?hy23⟩) (by assumption) ?re23
                  case hy23 => (intro w hSw; (try dsimp only at hSw); go_simp; try with_reducible rfl)
                  (try simp only [Act.put, List.getElem_toArray, List.getElem_cons_succ, List.getElem_cons_zero, List.setIfInBounds_toArray, List.set_cons_zero, List.set_cons_succ])
                  refine wpAnyH_take (i := 28) (v := ?vv24) rfl (by kernel_rfl) (by kernel_rfl) (by kernel_rfl) (fun _ _ _ h => h) (Or.inl ⟨by rfl, ?hy24⟩) (by assumption) ?re24
                  case hy24 => (intro w hSw; (try dsimp only at hSw); go_simp; try with_reducible rfl)
                  (try simp only [Act.put, List.getElem_toArray, List.getElem_cons_succ, List.getElem_cons_zero, List.setIfInBounds_toArray, List.set_cons_zero, List.set_cons_succ])
                  refine wpAnyH_take (i := 29) (v := ?vv25) rfl (by kernel_rfl) (by kernel_rfl) (by kernel_rfl) (fun _ _ _ h => h) (Or.inl ⟨by rfl, ?hy25⟩) (by assumption) ?re25
                  case hy25 => (intro w hSw; (try dsimp only at hSw); go_simp; try with_reducible rfl)
                  (try simp only [Act.put, List.getElem_toArray, List.getElem_cons_succ, List.getElem_cons_zero, List.setIfInBounds_toArray, List.set_cons_zero, List.set_cons_succ])
                  refine wpAnyH_take (i := 31) (v := ?vv26) rfl (by kernel_rfl) (by kernel_rfl) (by kernel_rfl) (fun _ _ _ h => h) (Or.inl ⟨by rfl, ?hy26⟩) (by assumption) ?re26
                  case hy26 => (intro w hSw; (try dsimp only at hSw); go_simp; try with_reducible rfl)
                  (try simp only [Act.put, List.getElem_toArray, List.getElem_cons_succ, List.getElem_cons_zero, List.setIfInBounds_toArray, List.set_cons_zero, List.set_cons_succ])
                  refine wpAnyH_take (i := 32) (v := ?vv27) rfl (by kernel_rfl) (by kernel_rfl) (by kernel_rfl) (fun _ _ _ h => h) (Or.inl ⟨by rfl, ?hy27⟩) (by assumption) ?re27
                  case hy27 => (intro w hSw; (try dsimp only at hSw); go_simp; try with_reducible rfl)
                  (try simp only [Act.put, List.getElem_toArray, List.getElem_cons_succ, List.getElem_cons_zero, List.setIfInBounds_toArray, List.set_cons_zero, List.set_cons_succ])
                  refine wpAnyH_take (i := 33) (v := ?vv28) rfl (by kernel_rfl) (by kernel_rfl) (by kernel_rfl) (fun _ _ _ h => h) (Or.inl ⟨by rfl, ?hy28⟩) (by assumption) ?re28
                  case hy28 => (intro w hSw; (try dsimp only at hSw); go_simp; try with_reducible rfl)
                  (try simp only [Act.put, List.getElem_toArray, List.getElem_cons_succ, List.getElem_cons_zero, List.setIfInBounds_toArray, List.set_cons_zero, List.set_cons_succ])
                  refine wpAnyH_take (i := 34) (v := ?vv29) rfl (by kernel_rfl) (by kernel_rfl) (by kernel_rfl) (fun _ _ _ h => h) (Or.inl ⟨by rfl, ?hy29⟩) (by assumption) ?re29
                  case hy29 => (intro w hSw; (try dsimp only at hSw); go_simp; try with_reducible rfl)
                  (try simp only [Act.put, List.getElem_toArray, List.getElem_cons_succ, List.getElem_cons_zero, List.setIfInBounds_toArray, List.set_cons_zero, List.set_cons_succ])
                  refine wpAnyH_ready (rs := [30]) (by kernel_rfl) (by simp) ?_
                  refine AllReadyH.cons (i := 30) rfl (fun K hK => ?_) AllReadyH.nil
                  go_simp
                  (go_at_call 13; (with_reducible refine (hP1.out _ (by assumption)).mono ?_); rintro e wB ⟨rfl, hbB⟩)
                  go_wp2_with fail
                  refine hK.out _ _ ?_ (fun hHeld => ?_)
                  · exact hcs.out _ (by assumption)
                  clear hK K
                  (try simp only [Act.put, List.getElem_toArray, List.getElem_cons_succ, List.getElem_cons_zero, List.setIfInBounds_toArray, List.set_cons_zero, List.set_cons_succ])
                  refine wpAnyH_ready (rs := [35]) (by kernel_rfl) (by simp) ?_
                  refine AllReadyH.cons (i := 35) rfl (fun K hK => ?_) AllReadyH.nil
                  go_simp
                  (go_at_call 13; (with_reducible refine (hP2.out _ (by assumption)).mono ?_); rintro e wC ⟨rfl, hbC⟩)
                  go_wp2_with fail
                  refine hK.out _ _ ?_ (fun hHeld => ?_)
                  · exact hcs.out _ (by assumption)
                  clear hK K
                  (try simp only [Act.put, List.getElem_toArray, List.getElem_cons_succ, List.getElem_cons_zero, List.setIfInBounds_toArray, List.set_cons_zero, List.set_cons_succ])
                  refine wpAnyH_take (i := 36) (v := ?vv30) rfl (by kernel_rfl) (by kernel_rfl) (by kernel_rfl) (fun _ _ _ h => h) (Or.inl ⟨by rfl, ?hy30⟩) (by assumption) ?re30
                  case hy30 => (intro w hSw; (try dsimp only at hSw); go_simp; try with_reducible rfl)
                  (try simp only [Act.put, List.getElem_toArray, List.getElem_cons_succ, List.getElem_cons_zero, List.setIfInBounds_toArray, List.set_cons_zero, List.set_cons_succ])
                  refine wpAnyH_take (i := 37) (v := ?vv31) rfl (by kernel_rfl) (by kernel_rfl) (by kernel_rfl) (fun _ _ _ h => h) (Or.inl ⟨by rfl, ?hy31⟩) (by assumption) ?re31
                  case hy31 => (intro w hSw; (try dsimp only at hSw); go_simp; try with_reducible rfl)
                  (try simp only [Act.put, List.getElem_toArray, List.getElem_cons_succ, List.getElem_cons_zero, List.setIfInBounds_toArray, List.set_cons_zero, List.set_cons_succ])
                  refine wpAnyH_take (i := 38) (v := ?vv32) rfl (by kernel_rfl) (by kernel_rfl) (by kernel_rfl) (fun _ _ _ h => h) (Or.inl ⟨by rfl, ?hy32⟩) (by assumption) ?re32
                  case hy32 => (intro w hSw; (try dsimp only at hSw); go_simp; try with_reducible rfl)
                  (try simp only [Act.put, List.getElem_toArray, List.getElem_cons_succ, List.getElem_cons_zero, List.setIfInBounds_toArray, List.set_cons_zero, List.set_cons_succ])
                  refine wpAnyH_done (by kernel_rfl) ?_ _
                  have hr7 := hr6.out _ hbC
                  have hb7 := hb3.trans (hbC.mono hb3.size)
                  clear hcs hat hP1 hP2 hr6 hbd
                  go_wp2_with fail
                  go_roundw
                  case rel => first | exact ⟨j + 1, by omega, by go_num, by rw [hpk.out]; exact hr7, by rw [hpk.out]; exact hwh, hb7⟩ | ((repeat apply Exists.intro); exact ⟨⟨j + 1, by omega, by go_num, by rw [hpk.out]; exact hr7, by rw [hpk.out]; exact hwh, hb7⟩, rfl⟩)
                  case measure => simp [intOf]; omega
                · obtain ⟨hA1, hA2⟩ := hAs (by omega)
                  have hwi : (c : Int) < (pk : Int) := by omega
                  replace hA1 := Lib.hid hA1
                  replace hA2 := Lib.hid hA2
                  clear hAw hAs
                  go_wp2_with fail
                  (with_reducible refine (num_v hra hA1.out).mono ?_)
                  rintro e w3 ⟨rfl, hr3, hg3⟩
                  replace hce1a := hg3.cell hce1a hgo5
                  have hb3 := below_grow hbla hg3 hbsa hb1l
                  rw [hA2.out] at hr3
                  clear hra hbla hg3 hbsa hgl e0 e1 e2
                  have hx : Hid ((⟨Sc, pj, 10⟩ : Rd).doneE = 10) := rfl
                  have hy : Hid ((⟨Sc, pj, 10⟩ : Rd).doneP = pj) := rfl
                  go_wp2_with fail
                  (with_reducible refine (done_v hr3 hx.out hy.out).mono ?_)
                  rintro e w5 ⟨qn, rfl, rfl⟩
                  have hr5 := rdAt_drewN hr3 qn
                  replace hb3 := below_drewN hb3 qn
                  replace hce1a : (w3.drewN qn).cell? _ = _ := hce1a
                  clear hr3
                  generalize w3.drewN qn = w5 at *
                  go_wp2_with fail
                  (with_reducible refine (at_v hr5 rfl).mono ?_)
                  rintro e w6 ⟨rfl, rfl⟩
                  go_wp2_with fail
                  go_ret
                  exact ⟨rfl, hb.trans (hb3.mono hWb)⟩
              · have hnum' : ¬ (⟨tn, tw, ts⟩ : Th).num := hnum
                obtain ⟨hCw, hCs⟩ := hC.out hnum'
                change (pk ≤ c → (⟨Sc, pj, 0⟩ : Rd).textV 1024 = ts ∧ (⟨Sc, pj, 0⟩ : Rd).textR 1024 = ⟨Sc, pk, 0⟩) at hCw
                replace hnum := Lib.hid hnum
                clear hA hC hP hnum'
                go_upto_region 30 with fail
                go_cut [108] from 101 to 108 (fun s108 wx => s108 = .bool true ∧ w2 = wx)
                case first =>
                  by_cases ht1 : tw < 1
                  · have htd : decide (tw < 1) = true := by simpa using ht1
                    go_wp2_with fail
                    go_meet
                    case rel => exact ⟨rfl, rfl⟩
                  · have ht8 : 8 < tw := by have := hnum.out; omega
                    have htd : decide (tw < 1) = false := by simpa using ht1
                    go_wp2_with fail
                    go_meet
                    case rel => exact ⟨rfl, rfl⟩
                case rest =>
                  obtain ⟨rfl, rfl⟩ := hcut
                  by_cases hwh : pk ≤ c
                  · obtain ⟨hC1, hC2⟩ := hCw hwh
                    have hwi : ¬ ((c : Int) < (pk : Int)) := by omega
                    have hwd : decide ((c : Int) < (pk : Int)) = false := by simpa using hwi
                    replace hC1 := Lib.hid hC1
                    replace hC2 := Lib.hid hC2
                    clear hCw hCs
                    go_wp2_with fail
                    (with_reducible refine (text_v hra hC1.out).mono ?_)
                    rintro e w3 ⟨rfl, hr3, hg3⟩
                    replace e1 := hg3.cell e1 hgo1
                    replace e2 := hg3.cell e2 hgo1
                    replace hce1a := hg3.cell hce1a hgo5
                    have hb3 := below_grow hbla hg3 hbsa hb1l
                    rw [hC2.out] at hr3
                    clear hra hbla hg3 hbsa hgl e0
                    obtain ⟨x, hx⟩ : ∃ x, (⟨Sc, pk, 0⟩ : Rd).doneE = x := ⟨_, rfl⟩
                    obtain ⟨y, hy⟩ : ∃ x, (⟨Sc, pk, 0⟩ : Rd).doneP = x := ⟨_, rfl⟩
                    replace hx := Lib.hid hx
                    replace hy := Lib.hid hy
                    go_wp2_with fail
                    (with_reducible refine (done_v hr3 hx.out hy.out).mono ?_)
                    rintro e w5 ⟨qn, rfl, rfl⟩
                    have hr5 := rdAt_drewN hr3 qn
                    replace hb3 := below_drewN hb3 qn
                    replace e1 : (w3.drewN qn).cell? _ = _ := e1
                    replace e2 : (w3.drewN qn).cell? _ = _ := e2
                    replace hce1a : (w3.drewN qn).cell? _ = _ := hce1a
                    clear hr3
                    generalize w3.drewN qn = w5 at *
                    go_wp2_with fail
                    go_cut [185] from 84 to 185 (fun s185 wx => s185 = .bool false ∧ ∃ q, w5.drewN q = wx)
                    case first =>
                      have s3 : ((pk : Int) != (pk : Int)) = false := bne_self_eq_false _
                      have s4 : (ts == ts) = true := by show (ts.data == ts.data) = true; exact beq_self_eq_true _
                      have s5 : (ts != ts) = false := by show (!(ts == ts)) = false; rw [s4]; rfl
                      by_cases hts : ts = ⟨#[]⟩
                      · have s6 : (ts == (⟨#[]⟩ : ByteArray)) = true := by rw [hts]; rfl
                        have s7 : (ts != (⟨#[]⟩ : ByteArray)) = false := by rw [hts]; rfl
                        have s8 : ts.toList.isEmpty = true := by rw [hts, ByteArray.toList_eq]; rfl
                        clear hts
                        by_cases ht1 : tw < 1
                        · have htd : decide (1 ≤ tw) = false := by simp; omega
                          go_quiet ((go_at_call 21; go_must (exact Calls.quiet_of_same ((at_v (rdAt_drewN hr5 _) rfl).mono fun _ _ h => ⟨h.1, h.2.symm⟩))))
                          go_wp2_with fail
                          go_meet
                          case rel => first | exact ⟨rfl, _, rfl⟩ | ((repeat apply Exists.intro); exact ⟨⟨rfl, _, rfl⟩, rfl⟩)
                        · have ht8 : ¬ tw ≤ 8 := by have := hnum.out; omega
                          have htd : decide (1 ≤ tw) = true := by simp; omega
                          have htd2 : decide (tw ≤ 8) = false := by simp; omega
                          go_quiet ((go_at_call 21; go_must (exact Calls.quiet_of_same ((at_v (rdAt_drewN hr5 _) rfl).mono fun _ _ h => ⟨h.1, h.2.symm⟩))))
                          go_wp2_with fail
                          go_meet
                          case rel => first | exact ⟨rfl, _, rfl⟩ | ((repeat apply Exists.intro); exact ⟨⟨rfl, _, rfl⟩, rfl⟩)
                      · have s6 : (ts == (⟨#[]⟩ : ByteArray)) = false := ba_ne hts
                        have s7 : (ts != (⟨#[]⟩ : ByteArray)) = true := by show (!(ts == (⟨#[]⟩ : ByteArray))) = true; rw [s6]; rfl
                        have s8 : ts.toList.isEmpty = false := toList_ne s6
                        clear hts
                        by_cases ht1 : tw < 1
                        · have htd : decide (1 ≤ tw) = false := by simp; omega
                          go_quiet ((go_at_call 21; go_must (exact Calls.quiet_of_same ((at_v (rdAt_drewN hr5 _) rfl).mono fun _ _ h => ⟨h.1, h.2.symm⟩))))
                          go_wp2_with fail
                          go_meet
                          case rel => first | exact ⟨rfl, _, rfl⟩ | ((repeat apply Exists.intro); exact ⟨⟨rfl, _, rfl⟩, rfl⟩)
                        · have ht8 : ¬ tw ≤ 8 := by have := hnum.out; omega
                          have htd : decide (1 ≤ tw) = true := by simp; omega
                          have htd2 : decide (tw ≤ 8) = false := by simp; omega
                          go_quiet ((go_at_call 21; go_must (exact Calls.quiet_of_same ((at_v (rdAt_drewN hr5 _) rfl).mono fun _ _ h => ⟨h.1, h.2.symm⟩))))
                          go_wp2_with fail
                          go_meet
                          case rel => first | exact ⟨rfl, _, rfl⟩ | ((repeat apply Exists.intro); exact ⟨⟨rfl, _, rfl⟩, rfl⟩)
                    case rest =>
                      obtain ⟨rfl, q, rfl⟩ := hcut
                      have hr7 := rdAt_drewN hr5 q
                      have hb7 := below_drewN hb3 q
                      clear hr5 hb3 e1 e2 hce1a
                      go_wp2_with fail
                      go_roundw
                      case rel => first | exact ⟨j + 1, by omega, by go_num, by rw [hpk.out]; exact hr7, by rw [hpk.out]; exact hwh, hb7⟩ | ((repeat apply Exists.intro); exact ⟨⟨j + 1, by omega, by go_num, by rw [hpk.out]; exact hr7, by rw [hpk.out]; exact hwh, hb7⟩, rfl⟩)
                      case measure => simp [intOf]; omega
                  · obtain ⟨hC1, hC2⟩ := hCs (by omega)
                    have hwi : (c : Int) < (pk : Int) := by omega
                    have hC1' : (⟨Sc, pj, 0⟩ : Rd).textV 1024 = ⟨#[]⟩ := hC1
                    replace hC1' := Lib.hid hC1'
                    replace hC2 := Lib.hid hC2
                    clear hCw hCs hC1
                    go_wp2_with fail
                    (with_reducible refine (text_v hra hC1'.out).mono ?_)
                    rintro e w3 ⟨rfl, hr3, hg3⟩
                    replace hce1a := hg3.cell hce1a hgo5
                    have hb3 := below_grow hbla hg3 hbsa hb1l
                    rw [hC2.out] at hr3
                    clear hra hbla hg3 hbsa hgl e0 e1 e2
                    have hx : Hid ((⟨Sc, pj, 10⟩ : Rd).doneE = 10) := rfl
                    have hy : Hid ((⟨Sc, pj, 10⟩ : Rd).doneP = pj) := rfl
                    go_wp2_with fail
                    (with_reducible refine (done_v hr3 hx.out hy.out).mono ?_)
                    rintro e w5 ⟨qn, rfl, rfl⟩
                    have hr5 := rdAt_drewN hr3 qn
                    replace hb3 := below_drewN hb3 qn
                    replace hce1a : (w3.drewN qn).cell? _ = _ := hce1a
                    clear hr3
                    generalize w3.drewN qn = w5 at *
                    go_wp2_with fail
                    (with_reducible refine (at_v hr5 rfl).mono ?_)
                    rintro e w6 ⟨rfl, rfl⟩
                    go_wp2_with fail
                    go_ret
                    exact ⟨rfl, hb.trans (hb3.mono hWb)⟩
          · obtain rfl : j = n4 := by omega
            have hlt3 : ¬ (j : Int) < j := by omega
            have hpe : posL K j = n3 := by rw [← hn4.out, posL_all, hn3.out]
            omega
      · have hcd2 : decide (((formsL K).length : Int) ≤ (c : Int)) = true := by simp; omega
        go_wp2_with fail
        go_ret
        exact ⟨rfl, hb⟩
end Go.Proofs.Ytbgnffgceeclhaa.cuts
