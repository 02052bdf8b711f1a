/-
  FrameStreams: whatever the key, the payloads and the order, the law returns true, and the arguments read as before; no condition.
-/
import Derived.Test.YtmmkopdijmplcaaRows
import Derived.Test.YtmmkopdijmplcaaBase
import Derived.Test.YtmmkopdijmplcaaFOpen
import Derived.Test.YtmmkopdijmplcaaFStrW
import Derived.ProofKit
import Derived.OpenShut
import Derived.ShutString
import Derived.ChangeOld
import Derived.SizedLaws
import Derived.Carry
namespace Go.Proofs.Ytmmkopdijmplcaa.fstr
open Go.RowKit Base HH FF Go.ChangeShapes Go.WideShapes Go.ChangeAt
open Go.ChangeMaps (open_string shut_string)
set_option linter.unusedVariables false
theorem own : ownKnob Try.prog.godebug = none := by kernel_rfl
theorem laidOut : laidOutB Try.prog = true := by kernel_rfl
set_option maxRecDepth 100000 in
theorem lifted (os : Os) (started : os.Started) (H : Type) (enc : TypeId × Value → H) :
    ReturnsInHanded {} Try.checked os 7 .any (Rows.frameStreamsSpec.pre6 enc Try.prog Try.f7 Rows.frameStreamsRow.domain false) (Rows.frameStreamsSpec.post enc Try.prog Try.f7 false true false false) := by
  refine returnsInHanded_of_change_sized (C := Try.checked) own started (by kernel_rfl) Try.func7
    (ChangeSpec.witness6 (enc := enc) (C := Try.checked) false ⟨#[], #[.string .empty, .slice none 0 0, .slice none 0 0], []⟩ 8 (by kernel_rfl) (by kernel_rfl) (by kernel_rfl) (by kernel_rfl)) ?_
  intro W base args ds gs before hval0 hW hcnd hsz0 _
  have hsz : (DataW.weightsEach Try.prog (Try.f7.params.toList ++ Rows.frameStreamsSpec.plain.varTypes Try.prog) (ds ++ gs)).all (· ≤ reachBytes) = true := hsz0
  have hval : ∀ (j : Nat) t v, Try.f7.params[j]? = some t → args[j]? = some v → Value.okWide Try.prog W .any base t v := hval0
  have hW' := hW
  obtain ⟨p, q, hA0, hV, rfl, hfz, hnd⟩ := hW
  have hA : DataW.TrodAll enc Try.prog W 0 (fun _ => true) true Try.f7.params.toList args.toList ds p := hA0
  rw [Try.params7] at hA hval hsz
  obtain ⟨v0, vs0, d0, ds0, p0, q0, hargs, rfl, rfl, h0, r0⟩ := trodAll_cons hA
  obtain ⟨v1, vs1, d1, ds1, p1, q1, rfl, rfl, rfl, h1, r1⟩ := trodAll_cons r0
  obtain ⟨v2, vs2, d2, ds2, p2, q2, rfl, rfl, rfl, h2, r2⟩ := trodAll_cons r1
  obtain ⟨rfl, rfl, rfl⟩ := trodAll_nil r2
  obtain rfl : args = #[v0, v1, v2] := by cases args; simp_all
  obtain ⟨rfl, rfl⟩ := trodVars_none hV
  have hb47 := reachBytes_lt
  obtain ⟨a0, rfl, rfl, rfl, w0⟩ := open_string Try.underlying9 (hval 0 9 v0 rfl rfl) h0
  have s0 : a0.size ≤ 140737488355327 := by
    have h1 := sized_string hsz (j := 0) (t := 9) rfl rfl
    simp at h1
    omega
  have h1k := h1
  have hlt1 : ∀ x ∈ p1, x.block < W.heap.size := fun x hx => by simpa using hW'.lt x (by simp [hx])
  obtain ⟨ao1, len1, cap1, l1, rfl, hlc1, hcm1, hp1, hwf1, hd1⟩ := open_strs (hval 1 53 v1 rfl rfl) h1
  have reach1 : len1 * 16 ≤ 140737488355327 := by
    have hpl := hp1.1
    rcases hd1 with ⟨_, h0, _⟩ | ⟨sp, hd1⟩
    · omega
    · have h1 := sized_slice hsz (j := 1) (t := 53) (e := 9) rfl (congrArg some hd1) Try.underlying53
      have h2 : Try.prog.bytesOf 9 = 16 := by kernel_rfl
      rw [h2] at h1
      simp [strs] at h1
      omega
  have each1 : ∀ s ∈ l1, s.size ≤ 140737488355327 := by
    rcases hd1 with ⟨_, _, _, h0⟩ | ⟨sp, hd1⟩
    · subst h0
      exact fun s hs => absurd hs (by simp)
    · exact reach_strs hsz (j := 1) rfl (congrArg some hd1)
  have h2k := h2
  have hlt2 : ∀ x ∈ p2, x.block < W.heap.size := fun x hx => by simpa using hW'.lt x (by simp [hx])
  obtain ⟨ao2, len2, cap2, l2, rfl, hlc2, hcm2, hp2, hwf2, hd2⟩ := open_intsL (hval 2 54 v2 rfl rfl) h2
  have reach2 : len2 * 8 ≤ 140737488355327 := by
    have hpl := hp2.1
    rcases hd2 with ⟨_, h0, _⟩ | ⟨sp, hd2⟩
    · omega
    · have h1 := sized_slice hsz (j := 2) (t := 54) (e := 3) rfl (congrArg some hd2) Try.underlying54
      have h2 : Try.prog.bytesOf 3 = 8 := by kernel_rfl
      rw [h2] at h1
      simp [lits] at h1
      omega
  clear hA0 hval0
  refine (walk W (by omega) hp1 hp2 (by omega) (by omega) hwf2).mono fun e W' ⟨he, bel⟩ => ?_
  subst he
  exact ⟨_, rfl, _, _, _, [], _, [], hW', trodAll_mk1 (shut_bool Try.underlying4 _), trodAll_cons_mk (shut_string Try.underlying9 w0) (trodAll_cons_mk (Below.trod laidOut (by kernel_rfl) (of_decide_eq_true (by kernel_rfl)) h1k bel hlt1) (trodAll_cons_mk (Below.trod laidOut (by kernel_rfl) (of_decide_eq_true (by kernel_rfl)) h2k bel hlt2) trodAll_mk0)), rfl, bel.frame _, fun h => by cases h⟩

theorem proved : Rows.FrameStreamsSaid :=
  OpenClaim.holds_of_wide 7 Try.f7 rfl rfl rfl rfl rfl rfl rfl ⟨rfl, rfl, rfl, rfl, rfl⟩ rfl rfl rfl rfl rfl (by kernel_rfl) Try.func7 (by kernel_rfl)
    (of_decide_eq_true (by kernel_rfl)) (by unfold Func.isWrapper; first | (rw [if_pos (by decide +kernel)]; kernel_rfl) | (rw [if_neg (by decide +kernel)]; exact ⟨rfl, rfl⟩))
    (fun os started H enc _ => lifted os started H enc)
#print axioms proved
end Go.Proofs.Ytmmkopdijmplcaa.fstr
