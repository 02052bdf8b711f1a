/-
  HashChains within the bound: whatever the link and the list of texts, the law returns true, and the arguments read as before.
-/
import Derived.Test.YtcllcajkmimgbaaRows
import Derived.Test.YtcllcajkmimgbaaBase
import Derived.Test.YtcllcajkmimgbaaHArgs
import Derived.Test.YtcllcajkmimgbaaHChainsW
import Derived.ProofKit
import Derived.OpenShut
import Derived.ShutString
import Derived.ChangeOld
import Derived.SizedLaws
import Derived.Carry
import Derived.JoinedCond
import Derived.Deep.CondSized
namespace Go.Proofs.Ytcllcajkmimgbaa.hchains
open Go.RowKit Base HH Go.ChangeShapes Go.WideShapes Go.ChangeAt
open Go.ChangeMaps (open_string shut_string)
set_option linter.unusedVariables false
theorem own : ownKnob Try.prog.godebug = none := by kernel_rfl
theorem laidOut : laidOutB Try.prog = true := by kernel_rfl
set_option maxRecDepth 100000 in
theorem lifted (os : Os) (started : os.Started) (H : Type) (enc : TypeId × Value → H) (F : Stop.Interp) :
    ReturnsInHanded {} Try.checked os 5 .any ((Rows.OpenSpec.upto Rows.hashChainsSpec).pre6 enc Try.prog Try.f5 Rows.hashChainsUptoRow.domain false) (((Rows.OpenSpec.upto Rows.hashChainsSpec).at F).post enc Try.prog Try.f5 false true false false) := by
  refine returnsInHanded_of_cond_sized (C := Try.checked) (s := (Rows.OpenSpec.upto Rows.hashChainsSpec)) (k := Rows.uptoSmall) rfl own started (by kernel_rfl) Try.func5
    (OpenSpec.witness (enc := enc) (C := Try.checked) (s := (Rows.OpenSpec.upto Rows.hashChainsSpec)) (k := Rows.uptoSmall) rfl false ⟨#[], #[.string .empty, .slice none 0 0], []⟩ 8 (by kernel_rfl) (by kernel_rfl) (by kernel_rfl)
      (x := ([.lit (.string []), .nil], [], [])) (by kernel_rfl) rfl (by kernel_rfl)) ?_
  intro W base args ds gs before hval0 hW hcnd hk0 hsz0 _
  have hsz : (DataW.weightsEach Try.prog (Try.f5.params.toList ++ (Rows.OpenSpec.upto Rows.hashChainsSpec).bare.plain.varTypes Try.prog) (ds ++ gs)).all (· ≤ reachBytes) = true := hsz0
  have hk : Rows.uptoSmall H (ds ++ gs) = true := hk0
  have hval : ∀ (j : Nat) t v, Try.f5.params[j]? = some t → args[j]? = some v → Value.okWide Try.prog W .any base t v := hval0
  have hW' := hW
  obtain ⟨p, q, hA0, hV, rfl, hfz, hnd⟩ := hW
  have hA : DataW.TrodAll enc Try.prog W 0 (fun _ => true) true Try.f5.params.toList args.toList ds p := hA0
  rw [Try.params5] at hA hval hsz
  obtain ⟨v0, vs0, d0, ds0, p0, q0, hargs, rfl, rfl, h0, r0⟩ := trodAll_cons hA
  obtain ⟨v1, vs1, d1, ds1, p1, q1, rfl, rfl, rfl, h1, r1⟩ := trodAll_cons r0
  obtain ⟨rfl, rfl, rfl⟩ := trodAll_nil r1
  obtain rfl : args = #[v0, v1] := by cases args; simp_all
  obtain ⟨rfl, rfl⟩ := trodVars_none hV
  have hb47 := reachBytes_lt
  obtain ⟨a0, rfl, rfl, rfl, w0⟩ := open_string Try.underlying9 (hval 0 9 v0 rfl rfl) h0
  have s0 : a0.size ≤ 140737488355327 := by
    have h1 := sized_string hsz (j := 0) (t := 9) rfl rfl
    simp at h1
    omega
  have u0 : a0.size ≤ 1048576 := upto_str hk (by simp)
  have h1k := h1
  have hlt1 : ∀ x ∈ p1, x.block < W.heap.size := fun x hx => by simpa using hW'.lt x (by simp [hx])
  obtain ⟨ao1, len1, cap1, l1, rfl, hlc1, hcm1, hp1, hwf1, hd1⟩ := open_strs (hval 1 27 v1 rfl rfl) h1
  have reach1 : len1 * 16 ≤ 140737488355327 := by
    have hpl := hp1.1
    rcases hd1 with ⟨_, h0, _⟩ | ⟨sp, hd1⟩
    · omega
    · have h1 := sized_slice hsz (j := 1) (t := 27) (e := 9) rfl (congrArg some hd1) Try.underlying27
      have h2 : Try.prog.bytesOf 9 = 16 := by kernel_rfl
      rw [h2] at h1
      simp [strs] at h1
      omega
  have each1 : ∀ s ∈ l1, s.size ≤ 140737488355327 := by
    rcases hd1 with ⟨_, _, _, h0⟩ | ⟨sp, hd1⟩
    · subst h0
      exact fun s hs => absurd hs (by simp)
    · exact reach_strs hsz (j := 1) rfl (congrArg some hd1)
  have u1 : tot l1 + l1.length ≤ 1048576 := by
    rcases hd1 with ⟨_, _, _, h0⟩ | ⟨sp, hd1⟩
    · subst h0
      decide
    · exact upto_strs hk (d := d1) (by simp) hd1
  clear hA0 hval0
  refine (walk W (by omega) hp1 (fun s hs => by have := tot_mem hs; omega) (by have := hp1.1; omega)).mono fun e W' ⟨he, bel⟩ => ?_
  subst he
  exact ⟨_, rfl, _, _, _, [], _, [], hW', trodAll_mk1 (shut_bool Try.underlying4 _), trodAll_cons_mk (shut_string Try.underlying9 w0) (trodAll_cons_mk (Below.trod laidOut (by kernel_rfl) (of_decide_eq_true (by kernel_rfl)) h1k bel hlt1) trodAll_mk0), rfl, bel.frame _, fun h => by cases h⟩

theorem proved : Rows.HashChainsUptoSaid :=
  OpenClaim.holds_of_cond 5 Try.f5 rfl rfl rfl rfl rfl rfl rfl ⟨rfl, rfl, rfl, rfl, rfl⟩ rfl rfl rfl rfl rfl (by kernel_rfl) Try.func5 (by kernel_rfl)
    (of_decide_eq_true (by kernel_rfl)) (by unfold Func.isWrapper; first | (rw [if_pos (by decide +kernel)]; kernel_rfl) | (rw [if_neg (by decide +kernel)]; exact ⟨rfl, rfl⟩))
    (fun os started H enc _ F => lifted os started H enc F)
#print axioms proved
end Go.Proofs.Ytcllcajkmimgbaa.hchains
