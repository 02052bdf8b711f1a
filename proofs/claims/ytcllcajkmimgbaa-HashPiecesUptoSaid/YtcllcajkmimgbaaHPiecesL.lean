/-
  HashPieces: whatever the list of texts, of bulk at most 1048576, the law returns true, and the argument reads as before; condition: the bound alone.
-/
import Derived.Test.YtcllcajkmimgbaaRows
import Derived.Test.YtcllcajkmimgbaaBase
import Derived.Test.YtcllcajkmimgbaaHArgs
import Derived.Test.YtcllcajkmimgbaaHPiecesW
import Derived.ProofKit
import Derived.OpenShut
import Derived.ShutString
import Derived.ChangeOld
import Derived.SizedLaws
import Derived.Carry
import Derived.JoinedCond
import Derived.Deep.CondSized
namespace Go.Proofs.Ytcllcajkmimgbaa.hpieces
open Go.RowKit Base HH Go.ChangeShapes Go.WideShapes Go.ChangeAt
open Go.ChangeMaps (open_string shut_string)
set_option linter.unusedVariables false
theorem own : ownKnob Try.prog.godebug = none := by kernel_rfl
theorem laidOut : laidOutB Try.prog = true := by kernel_rfl
set_option maxRecDepth 100000 in
theorem lifted (os : Os) (started : os.Started) (H : Type) (enc : TypeId × Value → H) (F : Stop.Interp) :
    ReturnsInHanded {} Try.checked os 10 .any ((Rows.OpenSpec.upto Rows.hashPiecesSpec).pre6 enc Try.prog Try.f10 Rows.hashPiecesUptoRow.domain false) (((Rows.OpenSpec.upto Rows.hashPiecesSpec).at F).post enc Try.prog Try.f10 false true false false) := by
  refine returnsInHanded_of_cond_sized (C := Try.checked) (s := (Rows.OpenSpec.upto Rows.hashPiecesSpec)) (k := Rows.uptoSmall) rfl own started (by kernel_rfl) Try.func10
    (OpenSpec.witness (enc := enc) (C := Try.checked) (s := (Rows.OpenSpec.upto Rows.hashPiecesSpec)) (k := Rows.uptoSmall) rfl false ⟨#[], #[.slice none 0 0], []⟩ 8 (by kernel_rfl) (by kernel_rfl) (by kernel_rfl)
      (x := ([.nil], [], [])) (by kernel_rfl) rfl (by kernel_rfl)) ?_
  intro W base args ds gs before hval0 hW hcnd hk0 hsz0 _
  have hsz : (DataW.weightsEach Try.prog (Try.f10.params.toList ++ (Rows.OpenSpec.upto Rows.hashPiecesSpec).bare.plain.varTypes Try.prog) (ds ++ gs)).all (· ≤ reachBytes) = true := hsz0
  have hk : Rows.uptoSmall H (ds ++ gs) = true := hk0
  have hval : ∀ (j : Nat) t v, Try.f10.params[j]? = some t → args[j]? = some v → Value.okWide Try.prog W .any base t v := hval0
  have hW' := hW
  obtain ⟨p, q, hA0, hV, rfl, hfz, hnd⟩ := hW
  have hA : DataW.TrodAll enc Try.prog W 0 (fun _ => true) true Try.f10.params.toList args.toList ds p := hA0
  rw [Try.params10] at hA hval hsz
  obtain ⟨v0, vs0, d0, ds0, p0, q0, hargs, rfl, rfl, h0, r0⟩ := trodAll_cons hA
  obtain ⟨rfl, rfl, rfl⟩ := trodAll_nil r0
  obtain rfl : args = #[v0] := by cases args; simp_all
  obtain ⟨rfl, rfl⟩ := trodVars_none hV
  have hb47 := reachBytes_lt
  have h0k := h0
  have hlt0 : ∀ x ∈ p0, x.block < W.heap.size := fun x hx => by simpa using hW'.lt x (by simp [hx])
  obtain ⟨ao0, len0, cap0, l0, rfl, hlc0, hcm0, hp0, hwf0, hd0⟩ := open_strs (hval 0 27 v0 rfl rfl) h0
  have reach0 : len0 * 16 ≤ 140737488355327 := by
    have hpl := hp0.1
    rcases hd0 with ⟨_, h0, _⟩ | ⟨sp, hd0⟩
    · omega
    · have h1 := sized_slice hsz (j := 0) (t := 27) (e := 9) rfl (congrArg some hd0) Try.underlying27
      have h2 : Try.prog.bytesOf 9 = 16 := by kernel_rfl
      rw [h2] at h1
      simp [strs] at h1
      omega
  have each0 : ∀ s ∈ l0, s.size ≤ 140737488355327 := by
    rcases hd0 with ⟨_, _, _, h0⟩ | ⟨sp, hd0⟩
    · subst h0
      exact fun s hs => absurd hs (by simp)
    · exact reach_strs hsz (j := 0) rfl (congrArg some hd0)
  have u0 : tot l0 + l0.length ≤ 1048576 := by
    rcases hd0 with ⟨_, _, _, h0⟩ | ⟨sp, hd0⟩
    · subst h0
      decide
    · exact upto_strs hk (d := d0) (by simp) hd0
  clear hA0 hval0
  refine (walk W hp0 (by omega) (by have := hp0.1; omega)).mono fun e W' ⟨he, bel⟩ => ?_
  subst he
  exact ⟨_, rfl, _, _, _, [], _, [], hW', trodAll_mk1 (shut_bool Try.underlying4 _), trodAll_cons_mk (Below.trod laidOut (by kernel_rfl) (of_decide_eq_true (by kernel_rfl)) h0k bel hlt0) trodAll_mk0, rfl, bel.frame _, fun h => by cases h⟩

theorem proved : Rows.HashPiecesUptoSaid :=
  OpenClaim.holds_of_cond 10 Try.f10 rfl rfl rfl rfl rfl rfl rfl ⟨rfl, rfl, rfl, rfl, rfl⟩ rfl rfl rfl rfl rfl (by kernel_rfl) Try.func10 (by kernel_rfl)
    (of_decide_eq_true (by kernel_rfl)) (by unfold Func.isWrapper; first | (rw [if_pos (by decide +kernel)]; kernel_rfl) | (rw [if_neg (by decide +kernel)]; exact ⟨rfl, rfl⟩))
    (fun os started H enc _ F => lifted os started H enc F)
#print axioms proved
end Go.Proofs.Ytcllcajkmimgbaa.hpieces
