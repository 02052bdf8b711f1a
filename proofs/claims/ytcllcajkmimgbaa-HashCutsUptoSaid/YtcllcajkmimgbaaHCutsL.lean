/-
  HashCuts: whatever the text, the cuts and the list of texts, of bulk at most 1048576, the law returns true, and the arguments read as before; condition: the bound alone.
-/
import Derived.Test.YtcllcajkmimgbaaRows
import Derived.Test.YtcllcajkmimgbaaBase
import Derived.Test.YtcllcajkmimgbaaHArgs
import Derived.Test.YtcllcajkmimgbaaHCutsW
import Derived.ProofKit
import Derived.OpenShut
import Derived.ShutString
import Derived.ChangeOld
import Derived.SizedLaws
import Derived.Carry
import Derived.JoinedCond
import Derived.Deep.CondSized
namespace Go.Proofs.Ytcllcajkmimgbaa.hcuts
open Go.RowKit Base HH Go.ChangeShapes Go.WideShapes Go.ChangeAt
open Go.ChangeMaps (open_string shut_string)
set_option linter.unusedVariables false
theorem own : ownKnob Try.prog.godebug = none := by kernel_rfl
theorem laidOut : laidOutB Try.prog = true := by kernel_rfl
set_option maxRecDepth 100000 in
theorem lifted (os : Os) (started : os.Started) (H : Type) (enc : TypeId × Value → H) (F : Stop.Interp) :
    ReturnsInHanded {} Try.checked os 8 .any ((Rows.OpenSpec.upto Rows.hashCutsSpec).pre6 enc Try.prog Try.f8 Rows.hashCutsUptoRow.domain false) (((Rows.OpenSpec.upto Rows.hashCutsSpec).at F).post enc Try.prog Try.f8 false true false false) := by
  refine returnsInHanded_of_cond_sized (C := Try.checked) (s := (Rows.OpenSpec.upto Rows.hashCutsSpec)) (k := Rows.uptoSmall) rfl own started (by kernel_rfl) Try.func8
    (OpenSpec.witness (enc := enc) (C := Try.checked) (s := (Rows.OpenSpec.upto Rows.hashCutsSpec)) (k := Rows.uptoSmall) rfl false ⟨#[], #[.string .empty, .slice none 0 0, .slice none 0 0], []⟩ 8 (by kernel_rfl) (by kernel_rfl) (by kernel_rfl)
      (x := ([.lit (.string []), .nil, .nil], [], [])) (by kernel_rfl) rfl (by kernel_rfl)) ?_
  intro W base args ds gs before hval0 hW hcnd hk0 hsz0 _
  have hsz : (DataW.weightsEach Try.prog (Try.f8.params.toList ++ (Rows.OpenSpec.upto Rows.hashCutsSpec).bare.plain.varTypes Try.prog) (ds ++ gs)).all (· ≤ reachBytes) = true := hsz0
  have hk : Rows.uptoSmall H (ds ++ gs) = true := hk0
  have hval : ∀ (j : Nat) t v, Try.f8.params[j]? = some t → args[j]? = some v → Value.okWide Try.prog W .any base t v := hval0
  have hW' := hW
  obtain ⟨p, q, hA0, hV, rfl, hfz, hnd⟩ := hW
  have hA : DataW.TrodAll enc Try.prog W 0 (fun _ => true) true Try.f8.params.toList args.toList ds p := hA0
  rw [Try.params8] at hA hval hsz
  obtain ⟨v0, vs0, d0, ds0, p0, q0, hargs, rfl, rfl, h0, r0⟩ := trodAll_cons hA
  obtain ⟨v1, vs1, d1, ds1, p1, q1, rfl, rfl, rfl, h1, r1⟩ := trodAll_cons r0
  obtain ⟨v2, vs2, d2, ds2, p2, q2, rfl, rfl, rfl, h2, r2⟩ := trodAll_cons r1
  obtain ⟨rfl, rfl, rfl⟩ := trodAll_nil r2
  obtain rfl : args = #[v0, v1, v2] := by cases args; simp_all
  obtain ⟨rfl, rfl⟩ := trodVars_none hV
  have hb47 := reachBytes_lt
  obtain ⟨a0, rfl, rfl, rfl, w0⟩ := open_string Try.underlying9 (hval 0 9 v0 rfl rfl) h0
  have s0 : a0.size ≤ 140737488355327 := by
    have h1 := sized_string hsz (j := 0) (t := 9) rfl rfl
    simp at h1
    omega
  have u0 : a0.size ≤ 1048576 := upto_str hk (by simp)
  have h1k := h1
  have hlt1 : ∀ x ∈ p1, x.block < W.heap.size := fun x hx => by simpa using hW'.lt x (by simp [hx])
  obtain ⟨ao1, len1, cap1, l1, rfl, hlc1, hcm1, hp1, hwf1, hd1⟩ := open_intsL (hval 1 33 v1 rfl rfl) h1
  have reach1 : len1 * 8 ≤ 140737488355327 := by
    have hpl := hp1.1
    rcases hd1 with ⟨_, h0, _⟩ | ⟨sp, hd1⟩
    · omega
    · have h1 := sized_slice hsz (j := 1) (t := 33) (e := 3) rfl (congrArg some hd1) Try.underlying33
      have h2 : Try.prog.bytesOf 3 = 8 := by kernel_rfl
      rw [h2] at h1
      simp [lits] at h1
      omega
  have h2k := h2
  have hlt2 : ∀ x ∈ p2, x.block < W.heap.size := fun x hx => by simpa using hW'.lt x (by simp [hx])
  obtain ⟨ao2, len2, cap2, l2, rfl, hlc2, hcm2, hp2, hwf2, hd2⟩ := open_strs (hval 2 27 v2 rfl rfl) h2
  have reach2 : len2 * 16 ≤ 140737488355327 := by
    have hpl := hp2.1
    rcases hd2 with ⟨_, h0, _⟩ | ⟨sp, hd2⟩
    · omega
    · have h1 := sized_slice hsz (j := 2) (t := 27) (e := 9) rfl (congrArg some hd2) Try.underlying27
      have h2 : Try.prog.bytesOf 9 = 16 := by kernel_rfl
      rw [h2] at h1
      simp [strs] at h1
      omega
  have each2 : ∀ s ∈ l2, s.size ≤ 140737488355327 := by
    rcases hd2 with ⟨_, _, _, h0⟩ | ⟨sp, hd2⟩
    · subst h0
      exact fun s hs => absurd hs (by simp)
    · exact reach_strs hsz (j := 2) rfl (congrArg some hd2)
  have u2 : tot l2 + l2.length ≤ 1048576 := by
    rcases hd2 with ⟨_, _, _, h0⟩ | ⟨sp, hd2⟩
    · subst h0
      decide
    · exact upto_strs hk (d := d2) (by simp) hd2
  clear hA0 hval0
  refine (walk W hp1 hp2 (by omega) (by omega) (by have := hp2.1; omega)).mono fun e W' ⟨he, bel⟩ => ?_
  subst he
  exact ⟨_, rfl, _, _, _, [], _, [], hW', trodAll_mk1 (shut_bool Try.underlying4 _), trodAll_cons_mk (shut_string Try.underlying9 w0) (trodAll_cons_mk (Below.trod laidOut (by kernel_rfl) (of_decide_eq_true (by kernel_rfl)) h1k bel hlt1) (trodAll_cons_mk (Below.trod laidOut (by kernel_rfl) (of_decide_eq_true (by kernel_rfl)) h2k bel hlt2) trodAll_mk0)), rfl, bel.frame _, fun h => by cases h⟩

theorem proved : Rows.HashCutsUptoSaid :=
  OpenClaim.holds_of_cond 8 Try.f8 rfl rfl rfl rfl rfl rfl rfl ⟨rfl, rfl, rfl, rfl, rfl⟩ rfl rfl rfl rfl rfl (by kernel_rfl) Try.func8 (by kernel_rfl)
    (of_decide_eq_true (by kernel_rfl)) (by unfold Func.isWrapper; first | (rw [if_pos (by decide +kernel)]; kernel_rfl) | (rw [if_neg (by decide +kernel)]; exact ⟨rfl, rfl⟩))
    (fun os started H enc _ F => lifted os started H enc F)
#print axioms proved
end Go.Proofs.Ytcllcajkmimgbaa.hcuts
