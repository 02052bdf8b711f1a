/-
  Things laid and cut short, plainly: whole ones read as they were, the first that is not whole is told; and the row of ends.
-/
import Derived.Test.YtbgnffgceeclhaaRows
import Derived.Test.YtbgnffgceeclhaaBase
import Derived.Test.YtbgnffgceeclhaaNum
import Derived.Test.YtbgnffgceeclhaaShift
import Derived.Test.YtbgnffgceeclhaaBackP
import Derived.Test.YtbgnffgceeclhaaThings
import Derived.Test.YtbgnffgceeclhaaLaid
import Derived.Test.YtbgnffgceeclhaaPlace
namespace Go.Proofs.Ytbgnffgceeclhaa
open Go.RowKit Base Go.Lib
theorem short_num {t : Th} (hn : t.num) {s : ByteArray} {at_ : Nat} (hlt : s.size < at_ + t.form.size) :
    (⟨s, at_, 0⟩ : Rd).numV t.w = 0 ∧ (⟨s, at_, 0⟩ : Rd).numR t.w = ⟨s, at_, 10⟩ := by
  obtain ⟨h1, h8⟩ := hn
  obtain ⟨k, hk⟩ := Int.eq_ofNat_of_zero_le (show 0 ≤ t.w by omega)
  have hf : t.form.data.toList = putL t.n (k : Int) := by
    unfold Th.form
    rw [if_pos ⟨h1, h8⟩, str_toList, hk]
  have hfl : t.form.size = k := by
    rw [← toList_size, hf, putL_is (by omega) (by omega), putTo_length]
  rw [hfl] at hlt
  unfold Rd.numV Rd.numR
  rw [hk]
  simp only [ne_eq, not_true_eq_false, if_false]
  have c1 : ¬ ((k : Int) < 1 ∨ 8 < (k : Int)) := by omega
  have c2 : (s.size : Int) - (at_ : Int) < (k : Int) := by omega
  simp only [if_neg c1, if_pos c2]
  exact ⟨trivial, trivial⟩
theorem short_text {t : Th} (hn : ¬ t.num) (hk : t.s.size ≤ 1024) {s : ByteArray} {at_ : Nat} {post : List UInt8} (hs : s.data.toList.drop at_ = (t.form.data.toList ++ post).take (s.size - at_)) (hlt : s.size < at_ + t.form.size) :
    (⟨s, at_, 0⟩ : Rd).textV 1024 = str [] ∧ (⟨s, at_, 0⟩ : Rd).textR 1024 = ⟨s, at_, 10⟩ := by
  have hf : t.form.data.toList = putL t.s.size 2 ++ t.s.data.toList := by
    unfold Th.form
    rw [if_neg hn]
    unfold textL
    rw [if_pos hk, toList_append, str_toList]
  have hp2 : (putL (t.s.size : Int) 2).length = 2 := rfl
  have hfl : t.form.size = 2 + t.s.size := by
    rw [← toList_size, hf, List.length_append, hp2, toList_size]
  rw [hfl] at hlt
  unfold Rd.textV Rd.textR
  simp only [ne_eq, not_true_eq_false, if_false, show ¬ ((1024 : Int) < 0) from by decide]
  by_cases h2 : s.size < at_ + 2
  · simp only [if_pos h2]
    exact ⟨trivial, trivial⟩
  · simp only [if_neg h2]
    have hhead : (⟨s, at_, 0⟩ : Rd).head = t.s.size := by
      unfold Rd.head
      show (num64 ((s.data.toList.drop at_).take 2)).toInt = _
      rw [hs, List.take_take, hf, List.append_assoc, Nat.min_eq_left (by omega), List.take_left' hp2]
      have := num64_put (t.s.size : Int) (k := 2) (by decide) (by decide) (by omega) (by omega)
      rw [if_pos (by decide)] at this
      have h2 : (num64 (putL (t.s.size : Int) 2)).toInt = (t.s.size : Int) % 256 ^ 2 := this
      rw [h2]
      have h7 : (256 : Int) ^ 2 = 65536 := by decide
      rw [h7]
      omega
    rw [hhead]
    have c2 : ¬ ((1024 : Int) < (t.s.size : Int)) := by omega
    have c3 : (s.size : Int) - (at_ : Int) - 2 < (t.s.size : Int) := by omega
    simp only [if_neg c2, if_pos c3]
    exact ⟨trivial, trivial⟩
/-- what stands at the k-th place of a cut -/
theorem cut_drop {S : ByteArray} {K : List Th} {c : Nat} (hS : S.data.toList = (formsL K).take c) {k : Nat} (hk : k < K.length) :
    S.data.toList.drop (posL K k) = ((K.getD k th0).form.data.toList ++ formsL (K.drop (k + 1))).take (c - posL K k) := by
  rw [hS, formsL_split K hk, List.drop_take]
  congr 1
  exact List.drop_left' rfl
theorem cut_whole {S : ByteArray} {K : List Th} {c : Nat} (hS : S.data.toList = (formsL K).take c) {k : Nat} (hk : k < K.length) (hc : posL K (k + 1) ≤ c) :
    ∃ post, S.data.toList.drop (posL K k) = (K.getD k th0).form.data.toList ++ post := by
  rw [posL_succ K hk] at hc
  refine ⟨(formsL (K.drop (k + 1))).take (c - posL K k - (K.getD k th0).form.data.toList.length), ?_⟩
  rw [cut_drop hS hk, List.take_append, List.take_of_length_le (by rw [toList_size]; omega)]
theorem cut_size {S : ByteArray} {K : List Th} {c : Nat} (hS : S.data.toList = (formsL K).take c) (hc : c ≤ (formsL K).length) : S.size = c := by
  rw [← toList_size, hS, List.length_take]
  omega
theorem cut_num {S : ByteArray} {K : List Th} {c : Nat} (hS : S.data.toList = (formsL K).take c) (hcl : c ≤ (formsL K).length) {k : Nat} (hk : k < K.length) {t : Th} (ht : K.getD k th0 = t) (hw : t.wf) (hn : t.num) (hpk : posL K k ≤ c) :
    (posL K (k + 1) ≤ c → (⟨S, posL K k, 0⟩ : Rd).numV t.w = (if t.w < 8 then t.n % 256 ^ t.w.toNat else t.n) ∧ (⟨S, posL K k, 0⟩ : Rd).numR t.w = ⟨S, posL K (k + 1), 0⟩) ∧
    (c < posL K (k + 1) → (⟨S, posL K k, 0⟩ : Rd).numV t.w = 0 ∧ (⟨S, posL K k, 0⟩ : Rd).numR t.w = ⟨S, posL K k, 10⟩) := by
  have hsz := cut_size hS hcl
  obtain ⟨h1, h2⟩ := (Lit.wf_int_iff _ _).1 hw.1
  refine ⟨fun h => ?_, fun h => ?_⟩
  · obtain ⟨post, hd⟩ := cut_whole hS hk h
    rw [posL_succ K hk]
    subst ht
    exact back_num hn h1 h2 hd (by omega)
  · rw [posL_succ K hk] at h
    subst ht
    exact short_num hn (by omega)
theorem cut_text {S : ByteArray} {K : List Th} {c : Nat} (hS : S.data.toList = (formsL K).take c) (hcl : c ≤ (formsL K).length) {k : Nat} (hk : k < K.length) {t : Th} (ht : K.getD k th0 = t) (hkp : t.kept = true) (hn : ¬ t.num) (hpk : posL K k ≤ c) :
    (posL K (k + 1) ≤ c → (⟨S, posL K k, 0⟩ : Rd).textV 1024 = t.s ∧ (⟨S, posL K k, 0⟩ : Rd).textR 1024 = ⟨S, posL K (k + 1), 0⟩) ∧
    (c < posL K (k + 1) → (⟨S, posL K k, 0⟩ : Rd).textV 1024 = str [] ∧ (⟨S, posL K k, 0⟩ : Rd).textR 1024 = ⟨S, posL K k, 10⟩) := by
  have hsz := cut_size hS hcl
  have h2 : t.s.size ≤ 1024 := by
    unfold Th.kept at hkp
    rw [decide_eq_false hn, Bool.false_or] at hkp
    exact of_decide_eq_true hkp
  refine ⟨fun h => ?_, fun h => ?_⟩
  · obtain ⟨post, hd⟩ := cut_whole hS hk h
    rw [posL_succ K hk]
    subst ht
    exact back_text hn h2 hd (by omega)
  · have hd := cut_drop hS hk
    rw [posL_succ K hk] at h
    subst ht
    exact short_text hn h2 (by rw [hsz]; exact hd) (by omega)
/-- a number and what is read of its form are laid alike -/
theorem put_same (t : Th) (hn : t.num) : str (putL (if t.w < 8 then t.n % 256 ^ t.w.toNat else t.n) t.w) = str (putL t.n t.w) := by
  obtain ⟨h1, h8⟩ := hn
  obtain ⟨k, hk⟩ := Int.eq_ofNat_of_zero_le (show 0 ≤ t.w by omega)
  rw [hk]
  by_cases h : (k : Int) < 8
  · rw [if_pos h, Int.toNat_natCast, putL_is (by omega) (by omega), putL_is (by omega) (by omega)]
    congr 1
    unfold putTo
    apply List.map_congr_left
    intro i hi
    have hi := List.mem_range.1 hi
    unfold b8
    congr 1
    rw [show (2 : Int) ^ (8 * (k - 1 - i)) = 256 ^ (k - 1 - i) from by rw [Int.pow_mul]; rfl]
    generalize hj : k - 1 - i = j
    have hjk : j + 1 ≤ k := by omega
    have e : (256 : Int) ^ k = 256 ^ j * 256 ^ (k - j) := by rw [← Int.pow_add]; congr 1; omega
    have e2 : (256 : Int) ^ (k - j) = 256 * 256 ^ (k - j - 1) := by
      rw [show k - j = (k - j - 1) + 1 from by omega, Int.pow_succ, Nat.add_sub_cancel, Int.mul_comm]
    have hp : (0 : Int) < 256 ^ j := Int.pow_pos (by decide)
    have e3 : t.n % 256 ^ k / 256 ^ j % 256 = t.n / 256 ^ j % 256 := by
      have hd := Int.emod_def t.n (256 ^ k)
      rw [hd, e, Int.mul_assoc, Int.sub_eq_add_neg, ← Int.mul_neg, Int.add_mul_ediv_left _ _ (by omega), e2, Int.mul_assoc, ← Int.mul_neg, Int.add_mul_emod_self_left]
    rw [e3]
  · rw [if_neg h]
/-- the row of ends -/
def endsL (K : List Th) : List Value := (List.range K.length).map fun j => Value.int .i64 (posL K (j + 1))
theorem posL_snoc (K : List Th) (t : Th) {k : Nat} (hk : k ≤ K.length) : posL (K ++ [t]) k = posL K k := by
  unfold posL
  rw [List.take_append_of_le_length hk]
theorem endsL_snoc (K : List Th) (t : Th) : endsL (K ++ [t]) = endsL K ++ [Value.int .i64 (formsL (K ++ [t])).length] := by
  unfold endsL
  rw [List.length_append, List.length_singleton, List.range_succ, List.map_append, List.map_singleton]
  congr 1
  · apply List.map_congr_left
    intro j hj
    have hj := List.mem_range.1 hj
    rw [posL_snoc K t (by omega)]
  · rw [← posL_all, List.length_append, List.length_singleton]
theorem endsL_length (K : List Th) : (endsL K).length = K.length := by unfold endsL; rw [List.length_map, List.length_range]
theorem endsL_get (K : List Th) {j : Nat} (hj : j < K.length) : (endsL K)[j]? = some (.int .i64 (posL K (j + 1))) := by
  unfold endsL
  rw [List.getElem?_map, List.getElem?_range hj]
  rfl
theorem rows_apart_i {w : World} {B B' n n' : Nat} {v v' : Value} {xs xs' : List Value} (h : w.ownsRow B 5 1 v n xs) (h' : w.ownsRow B' 3 1 v' n' xs') (g : Nat) (e : v.ownBlock = some g) : v'.ownBlock ≠ some g := by
  intro e'
  rcases h.2 with ⟨rfl, _⟩ | ⟨g1, c1, cur1, rfl, _, h1, _⟩
  · cases e
  · rcases h'.2 with ⟨rfl, _⟩ | ⟨g2, c2, cur2, rfl, _, h2, _⟩
    · cases e'
    · obtain rfl : g1 = g := Option.some.inj e
      obtain rfl : g2 = g1 := Option.some.inj e'
      rw [h1] at h2
      have := Option.some.inj h2
      simp at this
theorem rows_apart_t {w : World} {B B' n n' : Nat} {v v' : Value} {xs xs' : List Value} (h : w.ownsRow B 34 3 v n xs) (h' : w.ownsRow B' 3 1 v' n' xs') (g : Nat) (e : v.ownBlock = some g) : v'.ownBlock ≠ some g := by
  intro e'
  rcases h.2 with ⟨rfl, _⟩ | ⟨g1, c1, cur1, rfl, _, h1, _⟩
  · cases e
  · rcases h'.2 with ⟨rfl, _⟩ | ⟨g2, c2, cur2, rfl, _, h2, _⟩
    · cases e'
    · obtain rfl : g1 = g := Option.some.inj e
      obtain rfl : g2 = g1 := Option.some.inj e'
      rw [h1] at h2
      have := Option.some.inj h2
      simp at this
/-- 'string(b[:c])' of a row of the call's own -/
theorem cut_back {w : World} {base n c cap : Nat} {ao : Option Addr} {l : List UInt8} (h : w.ownsRow base 5 1 (.slice ao n cap) n (l.map bv)) (hc : c ≤ n) (hn : 0 < n) :
    ∃ g, ao = some ⟨g, 0, none⟩ ∧ n ≤ cap ∧ ∀ w', Below w.heap.size w w' → ∀ cp, (convert 30 9 (.slice (some ⟨g, 0, none⟩) c cp)).run Try.prog w' = .ok (.string (str (l.take c))) w' := by
  have hl : l.length = n := by have := h.1; simpa using this
  rcases h.2 with ⟨_, h0⟩ | ⟨g, cap', cur, hv, hb, hg, hn', hcc, hcs, ht⟩
  · omega
  · cases hv
    refine ⟨g, rfl, hn', fun w' hb' cp => ?_⟩
    have hlc : (l.take c).length = c := by rw [List.length_take]; omega
    have := run_convert_bytes_back (P := Try.prog) w' 30 9 5 ⟨g, 0, none⟩ cp (l.take c) Try.underlying30 Try.underlying5 Try.underlying9 (fun j hj => by
      rw [hlc] at hj
      have hx := (owns_keep h (grow_of_below hb' none) (fun g _ h => by cases h)).cells (g := g) rfl j (bv l[j]) (by simp [List.getElem?_eq_getElem (show j < l.length by omega)])
      rw [List.getElem_take]
      exact hx)
    rw [hlc] at this
    exact this
theorem infoInt : (Try.prog.info? 3).map (fun i => (i.zero, i.size, i.bytes)) = some (some (.int .i64 0), 1, 8) := by kernel_rfl
theorem ends_cell {w : World} {base cap : Nat} {ao : Option Addr} {K : List Th} (h : w.ownsRow base 3 1 (.slice ao K.length cap) K.length (endsL K)) (hn : 0 < K.length) :
    ∃ g, ao = some ⟨g, 0, none⟩ ∧ g < w.heap.size ∧ ∀ j, j < K.length → w.cell? ⟨g, j, none⟩ = some (.int .i64 (posL K (j + 1))) := by
  obtain ⟨ao', cap', hv, _, hc⟩ := owns_cells h
  obtain ⟨g, e, _, hg, _⟩ := hc 0 (by omega)
  cases hv
  subst e
  refine ⟨g, rfl, hg, fun j hj => ?_⟩
  obtain ⟨g', e', _, _, hc'⟩ := hc j (by omega)
  cases e'
  rw [hc', endsL_get K hj]
end Go.Proofs.Ytbgnffgceeclhaa
