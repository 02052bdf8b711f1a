/-
  Arguments of the frame laws, opened: a label, a pair of texts, what is sent; their texts are within the reach.
-/
import Derived.Test.YtmmkopdijmplcaaFArgs
import Derived.OpenShut
set_option linter.unusedVariables false
set_option maxRecDepth 100000
namespace Go.Proofs.Ytmmkopdijmplcaa.FF
open Go.RowKit Base HH Go.ChangeShapes Go.WideShapes
theorem open_label {H : Type} {enc : TypeId × Value → H} {w : World} {r : Reach} {b0 : Nat} {v : Value} {d : DataW H} {ps : List MemPlace} (hval : Value.okWide Try.prog w r b0 50 v) (h : DataW.Trod enc Try.prog w 0 (fun _ => true) true 50 v d ps) :
    ∃ a b c : Int, v = .agg #[.int .i64 a, .int .i64 b, .int .i64 c] ∧ (Lit.int .i64 a).wf = true ∧ (Lit.int .i64 b).wf = true ∧ (Lit.int .i64 c).wf = true := by
  simp only [Value.okWide, Try.underlying50] at hval
  obtain ⟨cs, rfl, hsz, _⟩ := hval
  have hcp : Try.prog.cellsOf 50 = 3 := by kernel_rfl
  have hci : Try.prog.cellsOf 3 = 1 := by kernel_rfl
  rw [hcp] at hsz
  obtain ⟨fuel, hf⟩ := h
  obtain ⟨l⟩ := cs
  match l, hsz with
  | [u, v, s], _ =>
    simp only [Value.cells] at hf
    obtain ⟨xs, m, _, _, _, hx, he⟩ := DataW.trod_struct Try.underlying50 hf
    match xs, hx with
    | [y0, y1, y2], _ =>
      have e0 : DataW.trod enc Try.prog w 0 (fun _ => true) true m 3 (([u, v, s].drop 0).take (Try.prog.cellsOf 3)) = some y0 := he 0 _ rfl
      have e1 : DataW.trod enc Try.prog w 0 (fun _ => true) true m 3 (([u, v, s].drop 1).take (Try.prog.cellsOf 3)) = some y1 := he 1 _ rfl
      have e2 : DataW.trod enc Try.prog w 0 (fun _ => true) true m 3 (([u, v, s].drop 2).take (Try.prog.cellsOf 3)) = some y2 := he 2 _ rfl
      rw [hci] at e0 e1 e2
      obtain ⟨p, hp, _, wp⟩ := DataW.trod_int Try.underlying3 e0
      obtain ⟨q, hq, _, wq⟩ := DataW.trod_int Try.underlying3 e1
      obtain ⟨z, hz, _, wz⟩ := DataW.trod_int Try.underlying3 e2
      simp at hp hq hz
      subst hp
      subst hq
      subst hz
      exact ⟨p, q, z, rfl, wp, wq, wz⟩
theorem open_str2 {H : Type} {enc : TypeId × Value → H} {w : World} {r : Reach} {b0 : Nat} {v : Value} {d : DataW H} {ps : List MemPlace} (hval : Value.okWide Try.prog w r b0 51 v) (h : DataW.Trod enc Try.prog w 0 (fun _ => true) true 51 v d ps) :
    ∃ s t : ByteArray, v = .agg #[.string s, .string t] ∧ d = .agg [.lit (.string s.data.toList), .lit (.string t.data.toList)] := by
  simp only [Value.okWide, Try.underlying51] at hval
  obtain ⟨cs, rfl, hsz, _⟩ := hval
  have hcp : Try.prog.cellsOf 51 = 2 := by kernel_rfl
  have hci : Try.prog.cellsOf 9 = 1 := by kernel_rfl
  rw [hcp] at hsz
  obtain ⟨fuel, hf⟩ := h
  obtain ⟨l⟩ := cs
  match l, hsz with
  | [u, v], _ =>
    simp only [Value.cells] at hf
    obtain ⟨xs, m, _, hxd, _, hx, he⟩ := DataW.trod_array Try.underlying51 hf
    rw [hci] at he
    match xs, hx with
    | [y0, y1], _ =>
      obtain ⟨p, hp, dp, wp⟩ := DataW.trod_string Try.underlying9 (he 0 (by omega))
      obtain ⟨q, hq, dq, wq⟩ := DataW.trod_string Try.underlying9 (he 1 (by omega))
      simp at hp hq
      subst hp
      subst hq
      have hd := (Prod.mk.inj hxd).1
      rw [dp, dq] at hd
      exact ⟨p, q, rfl, hd⟩
theorem sized_str2 {H : Type} {ts : List TypeId} {ds : List (DataW H)} (h : (DataW.weightsEach Try.prog ts ds).all (· ≤ reachBytes) = true) {j : Nat} {s t : ByteArray} (ht : ts[j]? = some 51) (hd : ds[j]? = some (.agg [.lit (.string s.data.toList), .lit (.string t.data.toList)])) :
    s.size ≤ 140737488355327 ∧ t.size ≤ 140737488355327 := by
  have e : (DataW.agg [.lit (.string s.data.toList), .lit (.string t.data.toList)] : DataW H).weights Try.prog 51 = [s.data.toList.length, t.data.toList.length] := by
    unfold DataW.weights
    rw [Try.underlying51]
    simp [DataW.weightsAll, DataW.weights]
  have h2 := reachBytes_lt
  have m1 := of_decide_eq_true ((List.all_eq_true.1 h) _ (DataW.weights_mem_each ht hd s.data.toList.length (by rw [e]; simp)))
  have m2 := of_decide_eq_true ((List.all_eq_true.1 h) _ (DataW.weights_mem_each ht hd t.data.toList.length (by rw [e]; simp)))
  have e1 : s.data.toList.length = s.size := rfl
  have e2 : t.data.toList.length = t.size := rfl
  omega
theorem open_sent {H : Type} {enc : TypeId × Value → H} {w : World} {r : Reach} {b0 : Nat} {v : Value} {d : DataW H} {ps : List MemPlace} (hval : Value.okWide Try.prog w r b0 24 v) (h : DataW.Trod enc Try.prog w 0 (fun _ => true) true 24 v d ps) :
    ∃ (key : ByteArray) (a b c : Int) (p : ByteArray) (t : Int) (z : Value) (yz : DataW H × List MemPlace) (m : Nat), v = .agg #[.string key, .int .i64 a, .int .i64 b, .int .i64 c, .string p, .int .i64 t, z] ∧ d = .agg [.lit (.string key.data.toList), .lit (.int .i64 a), .lit (.int .i64 b), .lit (.int .i64 c), .lit (.string p.data.toList), .lit (.int .i64 t), yz.1] ∧
      DataW.trod enc Try.prog w 0 (fun _ => true) true m 22 [z] = some yz ∧ (Lit.int .i64 a).wf = true ∧ (Lit.int .i64 b).wf = true ∧ (Lit.int .i64 c).wf = true ∧ (Lit.int .i64 t).wf = true := by
  simp only [Value.okWide, Try.underlying24] at hval
  obtain ⟨cs, rfl, hsz, _⟩ := hval
  have hcp : Try.prog.cellsOf 24 = 7 := by kernel_rfl
  have hci : Try.prog.cellsOf 3 = 1 := by kernel_rfl
  have hcs : Try.prog.cellsOf 9 = 1 := by kernel_rfl
  have hcz : Try.prog.cellsOf 22 = 1 := by kernel_rfl
  rw [hcp] at hsz
  obtain ⟨fuel, hf⟩ := h
  obtain ⟨l⟩ := cs
  match l, hsz with
  | [x0, x1, x2, x3, x4, x5, x6], _ =>
    simp only [Value.cells] at hf
    obtain ⟨xs, m, _, hxd, _, hx, he⟩ := DataW.trod_struct Try.underlying24 hf
    match xs, hx with
    | [y0, y1, y2, y3, y4, y5, y6], _ =>
      have e0 : DataW.trod enc Try.prog w 0 (fun _ => true) true m 9 (([x0, x1, x2, x3, x4, x5, x6].drop 0).take (Try.prog.cellsOf 9)) = some y0 := he 0 _ rfl
      have e1 : DataW.trod enc Try.prog w 0 (fun _ => true) true m 3 (([x0, x1, x2, x3, x4, x5, x6].drop 1).take (Try.prog.cellsOf 3)) = some y1 := he 1 _ rfl
      have e2 : DataW.trod enc Try.prog w 0 (fun _ => true) true m 3 (([x0, x1, x2, x3, x4, x5, x6].drop 2).take (Try.prog.cellsOf 3)) = some y2 := he 2 _ rfl
      have e3 : DataW.trod enc Try.prog w 0 (fun _ => true) true m 3 (([x0, x1, x2, x3, x4, x5, x6].drop 3).take (Try.prog.cellsOf 3)) = some y3 := he 3 _ rfl
      have e4 : DataW.trod enc Try.prog w 0 (fun _ => true) true m 9 (([x0, x1, x2, x3, x4, x5, x6].drop 4).take (Try.prog.cellsOf 9)) = some y4 := he 4 _ rfl
      have e5 : DataW.trod enc Try.prog w 0 (fun _ => true) true m 3 (([x0, x1, x2, x3, x4, x5, x6].drop 5).take (Try.prog.cellsOf 3)) = some y5 := he 5 _ rfl
      have e6 : DataW.trod enc Try.prog w 0 (fun _ => true) true m 22 (([x0, x1, x2, x3, x4, x5, x6].drop 6).take (Try.prog.cellsOf 22)) = some y6 := he 6 _ rfl
      rw [hci] at e1 e2 e3 e5
      rw [hcs] at e0 e4
      rw [hcz] at e6
      obtain ⟨z0, h0, d0, _⟩ := DataW.trod_string Try.underlying9 e0
      obtain ⟨z1, h1, d1, w1⟩ := DataW.trod_int Try.underlying3 e1
      obtain ⟨z2, h2, d2, w2⟩ := DataW.trod_int Try.underlying3 e2
      obtain ⟨z3, h3, d3, w3⟩ := DataW.trod_int Try.underlying3 e3
      obtain ⟨z4, h4, d4, _⟩ := DataW.trod_string Try.underlying9 e4
      obtain ⟨z5, h5, d5, w5⟩ := DataW.trod_int Try.underlying3 e5
      simp at h0 h1 h2 h3 h4 h5
      subst h0
      subst h1
      subst h2
      subst h3
      subst h4
      subst h5
      have hd := (Prod.mk.inj hxd).1
      rw [d0, d1, d2, d3, d4, d5] at hd
      exact ⟨z0, z1, z2, z3, z4, z5, x6, y6, m, rfl, hd, e6, w1, w2, w3, w5⟩
theorem sized_sent {H : Type} {ts : List TypeId} {ds : List (DataW H)} (h : (DataW.weightsEach Try.prog ts ds).all (· ≤ reachBytes) = true) {j : Nat} {s t : ByteArray} {l1 l2 l3 l4 : Lit} {z : DataW H} (ht : ts[j]? = some 24) (hd : ds[j]? = some (.agg [.lit (.string s.data.toList), .lit l1, .lit l2, .lit l3, .lit (.string t.data.toList), .lit l4, z])) :
    s.size ≤ 140737488355327 ∧ t.size ≤ 140737488355327 ∧ ∀ n ∈ z.weights Try.prog 22, n ≤ 140737488355327 := by
  have e : (DataW.agg [.lit (.string s.data.toList), .lit l1, .lit l2, .lit l3, .lit (.string t.data.toList), .lit l4, z] : DataW H).weights Try.prog 24 = (DataW.lit (H := H) (.string s.data.toList)).weights Try.prog 9 ++ ((DataW.lit (H := H) l1).weights Try.prog 3 ++ ((DataW.lit (H := H) l2).weights Try.prog 3 ++ ((DataW.lit (H := H) l3).weights Try.prog 3 ++ ((DataW.lit (H := H) (.string t.data.toList)).weights Try.prog 9 ++ ((DataW.lit (H := H) l4).weights Try.prog 3 ++ (z.weights Try.prog 22 ++ [])))))) := by
    conv => lhs; unfold DataW.weights
    rw [Try.underlying24]
    rfl
  have h2 := reachBytes_lt
  have k1 : (DataW.lit (H := H) (.string s.data.toList)).weights Try.prog 9 = [s.size] := by unfold DataW.weights; rfl
  have k2 : (DataW.lit (H := H) (.string t.data.toList)).weights Try.prog 9 = [t.size] := by unfold DataW.weights; rfl
  rw [k1, k2] at e
  have m1 := of_decide_eq_true ((List.all_eq_true.1 h) _ (DataW.weights_mem_each ht hd s.size (by rw [e]; simp)))
  have m2 := of_decide_eq_true ((List.all_eq_true.1 h) _ (DataW.weights_mem_each ht hd t.size (by rw [e]; simp)))
  refine ⟨by omega, by omega, fun n hn => ?_⟩
  have m3 := of_decide_eq_true ((List.all_eq_true.1 h) _ (DataW.weights_mem_each ht hd n (by rw [e]; simp [hn])))
  omega
end Go.Proofs.Ytmmkopdijmplcaa.FF
