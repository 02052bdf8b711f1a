/-
  Frames, plainly, over lists of bytes: a frame's bytes, what bytes say by a key and a label; there and back; no program is in sight.
-/
import Derived.Test.YtmmkopdijmplcaaSha
set_option linter.unusedVariables false
namespace Go.Proofs.Ytmmkopdijmplcaa.Frm
def most : Nat := 4611686018427387904
/-- bytes as a number, the highest first -/
def valN (l : List UInt8) : Nat := l.foldl (fun n c => n * 256 + c.toNat) 0
theorem valN_snoc (l : List UInt8) (c : UInt8) : valN (l ++ [c]) = valN l * 256 + c.toNat := by simp [valN]
theorem fold_lt (l : List UInt8) (x m : Nat) (hx : x < 256 ^ m) : l.foldl (fun n c => n * 256 + c.toNat) x < 256 ^ (m + l.length) := by
  induction l generalizing x m with
  | nil => exact hx
  | cons c l ih =>
    rw [List.foldl_cons, List.length_cons, show m + (l.length + 1) = (m + 1) + l.length from by omega]
    refine ih _ _ ?_
    have hc : c.toNat < 256 := c.toNat_lt
    rw [Nat.pow_succ]
    omega
theorem valN_lt (l : List UInt8) : valN l < 256 ^ l.length := by
  have := fold_lt l 0 0 (by decide)
  rw [Nat.zero_add] at this
  exact this
/-- the j highest of a number's eight bytes -/
def be (n j : Nat) : List UInt8 := (List.range j).map fun i => UInt8.ofNat (n / 256 ^ (7 - i) % 256)
theorem be_succ (n j : Nat) : be n (j + 1) = be n j ++ [UInt8.ofNat (n / 256 ^ (7 - j) % 256)] := by
  unfold be
  rw [List.range_succ, List.map_append]
  rfl
theorem be_all (n : Nat) : be n 8 = Sha.be8 n := rfl
theorem be8_length (n : Nat) : (Sha.be8 n).length = 8 := by unfold Sha.be8; rw [List.length_map, List.length_range]
theorem val_be8 (n : Nat) (h : n < 18446744073709551616) : valN (Sha.be8 n) = n := by
  show ((((((((0 * 256 + (UInt8.ofNat (n / 256 ^ 7 % 256)).toNat) * 256 + (UInt8.ofNat (n / 256 ^ 6 % 256)).toNat) * 256 + (UInt8.ofNat (n / 256 ^ 5 % 256)).toNat) * 256 + (UInt8.ofNat (n / 256 ^ 4 % 256)).toNat) * 256 + (UInt8.ofNat (n / 256 ^ 3 % 256)).toNat) * 256 + (UInt8.ofNat (n / 256 ^ 2 % 256)).toNat) * 256 + (UInt8.ofNat (n / 256 ^ 1 % 256)).toNat) * 256 + (UInt8.ofNat (n / 256 ^ 0 % 256)).toNat) = n
  simp only [UInt8.toNat_ofNat', Nat.mod_mod]
  omega
theorem ofNat_toNat (c : UInt8) : UInt8.ofNat c.toNat = c := by
  apply UInt8.toNat_inj.1
  rw [UInt8.toNat_ofNat']
  exact Nat.mod_eq_of_lt c.toNat_lt
theorem be8_of8 (a b c d e f g h : UInt8) : Sha.be8 (valN [a, b, c, d, e, f, g, h]) = [a, b, c, d, e, f, g, h] := by
  have ha : a.toNat < 256 := a.toNat_lt
  have hb : b.toNat < 256 := b.toNat_lt
  have hc : c.toNat < 256 := c.toNat_lt
  have hd : d.toNat < 256 := d.toNat_lt
  have he : e.toNat < 256 := e.toNat_lt
  have hf : f.toNat < 256 := f.toNat_lt
  have hg : g.toNat < 256 := g.toNat_lt
  have hh : h.toNat < 256 := h.toNat_lt
  have hv : valN [a, b, c, d, e, f, g, h] = ((((((((0 * 256 + a.toNat) * 256 + b.toNat) * 256 + c.toNat) * 256 + d.toNat) * 256 + e.toNat) * 256 + f.toNat) * 256 + g.toNat) * 256 + h.toNat) := rfl
  rw [hv]
  show [UInt8.ofNat (_ / 256 ^ 7 % 256), UInt8.ofNat (_ / 256 ^ 6 % 256), UInt8.ofNat (_ / 256 ^ 5 % 256), UInt8.ofNat (_ / 256 ^ 4 % 256), UInt8.ofNat (_ / 256 ^ 3 % 256), UInt8.ofNat (_ / 256 ^ 2 % 256), UInt8.ofNat (_ / 256 ^ 1 % 256), UInt8.ofNat (_ / 256 ^ 0 % 256)] = _
  have key : ∀ (x : Nat) (y : UInt8), x = y.toNat → UInt8.ofNat x = y := fun x y h => by rw [h, ofNat_toNat]
  rw [key _ a (by omega), key _ b (by omega), key _ c (by omega), key _ d (by omega), key _ e (by omega), key _ f (by omega), key _ g (by omega), key _ h (by omega)]
theorem be8_val {l : List UInt8} (h : l.length = 8) : Sha.be8 (valN l) = l := by
  match l, h with
  | [a, b, c, d, e, f, g, h], _ => exact be8_of8 a b c d e f g h
def head (level epoch seq n : Nat) : List UInt8 := UInt8.ofNat level :: (Sha.be8 epoch ++ (Sha.be8 seq ++ [UInt8.ofNat n]))
theorem head_length (level epoch seq n : Nat) : (head level epoch seq n).length = 18 := by
  unfold head
  rw [List.length_cons, List.length_append, List.length_append, be8_length, be8_length]
  rfl
def body (level epoch seq : Nat) (p : List UInt8) : List UInt8 := head level epoch seq p.length ++ p
def whole (key : List UInt8) (level epoch seq : Nat) (p : List UInt8) : List UInt8 := body level epoch seq p ++ Sha.mac key (body level epoch seq p)
/-- numbers that may be -/
def fine (level epoch seq : Int) : Prop := 0 ≤ level ∧ level < 8 ∧ 0 ≤ epoch ∧ epoch ≤ most ∧ 0 ≤ seq ∧ seq ≤ most
instance (a b c : Int) : Decidable (fine a b c) := by unfold fine; infer_instance
/-- a frame's bytes, or why there are none -/
def encS (key : List UInt8) (level epoch seq : Int) (p : List UInt8) : List UInt8 := if fine level epoch seq ∧ p.length ≤ 200 then whole key level.toNat epoch.toNat seq.toNat p else []
def encE (level epoch seq : Int) (p : List UInt8) : Int := if fine level epoch seq then (if p.length ≤ 200 then 0 else 191) else 1
/-- bytes in a frame's form -/
def shaped (s : List UInt8) : Prop :=
  50 ≤ s.length ∧ (s.getD 17 0).toNat ≤ 200 ∧ s.length = 50 + (s.getD 17 0).toNat ∧ (s.getD 0 0).toNat < 8 ∧ valN ((s.drop 1).take 8) ≤ most ∧ valN ((s.drop 9).take 8) ≤ most
instance (s : List UInt8) : Decidable (shaped s) := by unfold shaped; infer_instance
def bodyOf (s : List UInt8) : List UInt8 := s.take (s.length - 32)
def tagOf (s : List UInt8) : List UInt8 := s.drop (s.length - 32)
/-- the label is that one -/
def labelled (level epoch : Int) (s : List UInt8) : Prop := ((s.getD 0 0).toNat : Int) = level ∧ (valN ((s.drop 1).take 8) : Int) = epoch
instance (level epoch : Int) (s : List UInt8) : Decidable (labelled level epoch s) := by unfold labelled; infer_instance
/-- what bytes say -/
def decE (key : List UInt8) (level epoch : Int) (s : List UInt8) : Int :=
  if ¬ shaped s then 190 else if Sha.mac key (bodyOf s) ≠ tagOf s then 192 else if ¬ labelled level epoch s then 193 else 0
def decN (key : List UInt8) (level epoch : Int) (s : List UInt8) : Nat := if decE key level epoch s = 0 then valN ((s.drop 9).take 8) else 0
def decP (key : List UInt8) (level epoch : Int) (s : List UInt8) : List UInt8 := if decE key level epoch s = 0 then (bodyOf s).drop 18 else []
theorem sha_length (l : List UInt8) : (Sha.sha l).length = 32 := rfl
theorem mac_length (k l : List UInt8) : (Sha.mac k l).length = 32 := rfl
theorem body_length (level epoch seq : Nat) (p : List UInt8) : (body level epoch seq p).length = 18 + p.length := by
  unfold body
  rw [List.length_append, head_length]
theorem whole_length (key : List UInt8) (level epoch seq : Nat) (p : List UInt8) : (whole key level epoch seq p).length = 50 + p.length := by
  unfold whole
  rw [List.length_append, body_length, mac_length]
  omega
theorem whole_get (key : List UInt8) (level epoch seq : Nat) (p t : List UInt8) : ((whole key level epoch seq p ++ t).getD 0 0) = UInt8.ofNat level ∧ ((whole key level epoch seq p ++ t).getD 17 0) = UInt8.ofNat p.length := by
  unfold whole body head Sha.be8
  exact ⟨rfl, rfl⟩
theorem whole_nums (key : List UInt8) (level epoch seq : Nat) (p t : List UInt8) : ((whole key level epoch seq p ++ t).drop 1).take 8 = Sha.be8 epoch ∧ ((whole key level epoch seq p ++ t).drop 9).take 8 = Sha.be8 seq := by
  unfold whole body head Sha.be8
  exact ⟨rfl, rfl⟩
theorem whole_body (key : List UInt8) (level epoch seq : Nat) (p : List UInt8) : bodyOf (whole key level epoch seq p) = body level epoch seq p := by
  unfold bodyOf
  rw [whole_length]
  unfold whole
  exact List.take_left' (by rw [body_length]; omega)
theorem whole_tag (key : List UInt8) (level epoch seq : Nat) (p : List UInt8) : tagOf (whole key level epoch seq p) = Sha.mac key (body level epoch seq p) := by
  unfold tagOf
  rw [whole_length]
  unfold whole
  exact List.drop_left' (by rw [body_length]; omega)
theorem whole_shaped (key : List UInt8) {level epoch seq : Nat} {p : List UInt8} (h1 : level < 8) (h2 : epoch ≤ most) (h3 : seq ≤ most) (h4 : p.length ≤ 200) : shaped (whole key level epoch seq p) := by
  have a := whole_get key level epoch seq p []
  have b := whole_nums key level epoch seq p []
  rw [List.append_nil] at a b
  unfold most at h2 h3
  unfold shaped
  rw [a.1, a.2, b.1, b.2, val_be8 _ (by omega), val_be8 _ (by omega), whole_length]
  simp only [UInt8.toNat_ofNat']
  unfold most
  omega
theorem whole_labelled (key : List UInt8) {lev ep seq : Nat} {p : List UInt8} (h1 : lev < 8) (h2 : ep ≤ most) (level epoch : Int) : labelled level epoch (whole key lev ep seq p) ↔ ((lev : Int) = level ∧ (ep : Int) = epoch) := by
  have a := whole_get key lev ep seq p []
  have b := whole_nums key lev ep seq p []
  rw [List.append_nil] at a b
  unfold most at h2
  unfold labelled
  rw [a.1, b.1, val_be8 _ (by omega)]
  simp only [UInt8.toNat_ofNat']
  rw [Nat.mod_eq_of_lt (show lev < 2 ^ 8 from by omega)]
/-- there and back -/
theorem dec_whole (key key' : List UInt8) {lev ep seq : Nat} {p : List UInt8} (h1 : lev < 8) (h2 : ep ≤ most) (h3 : seq ≤ most) (h4 : p.length ≤ 200) (level epoch : Int) :
    decE key' level epoch (whole key lev ep seq p) = if Sha.mac key' (body lev ep seq p) ≠ Sha.mac key (body lev ep seq p) then 192 else if (lev : Int) = level ∧ (ep : Int) = epoch then 0 else 193 := by
  unfold decE
  rw [if_neg (not_not_intro (whole_shaped key h1 h2 h3 h4)), whole_body, whole_tag]
  congr 1
  by_cases h : (lev : Int) = level ∧ (ep : Int) = epoch
  · rw [if_pos h, if_neg (not_not_intro ((whole_labelled key h1 h2 level epoch).2 h))]
  · rw [if_neg h, if_pos (fun x => h ((whole_labelled key h1 h2 level epoch).1 x))]
theorem back (key : List UInt8) {lev ep seq : Nat} {p : List UInt8} (h1 : lev < 8) (h2 : ep ≤ most) (h3 : seq ≤ most) (h4 : p.length ≤ 200) :
    decE key lev ep (whole key lev ep seq p) = 0 ∧ decN key lev ep (whole key lev ep seq p) = seq ∧ decP key lev ep (whole key lev ep seq p) = p := by
  have h0 : decE key lev ep (whole key lev ep seq p) = 0 := by
    rw [dec_whole key key h1 h2 h3 h4, if_neg (fun h => h rfl), if_pos ⟨rfl, rfl⟩]
  have b := whole_nums key lev ep seq p []
  rw [List.append_nil] at b
  unfold most at h3
  refine ⟨h0, ?_, ?_⟩
  · unfold decN
    rw [if_pos h0, b.2, val_be8 _ (by omega)]
  · unfold decP
    rw [if_pos h0, whole_body]
    unfold body
    exact List.drop_left' (head_length _ _ _ _)
/-- by another label it is refused -/
theorem other (key : List UInt8) {lev ep seq : Nat} {p : List UInt8} (h1 : lev < 8) (h2 : ep ≤ most) (h3 : seq ≤ most) (h4 : p.length ≤ 200) {level epoch : Int} (h : ¬ ((lev : Int) = level ∧ (ep : Int) = epoch)) :
    decE key level epoch (whole key lev ep seq p) = 193 := by
  rw [dec_whole key key h1 h2 h3 h4, if_neg (fun h => h rfl), if_neg h]
/-- with a byte more it is no frame, and with one less -/
theorem longer (key : List UInt8) {lev ep seq : Nat} {p : List UInt8} (h4 : p.length ≤ 200) (level epoch : Int) (c : UInt8) : decE key level epoch (whole key lev ep seq p ++ [c]) = 190 := by
  unfold decE
  refine if_pos fun h => ?_
  obtain ⟨_, _, h, _⟩ := h
  rw [(whole_get key lev ep seq p [c]).2, List.length_append, whole_length] at h
  simp only [UInt8.toNat_ofNat', List.length_cons, List.length_nil] at h
  omega
theorem shorter (key : List UInt8) {lev ep seq : Nat} {p : List UInt8} (h4 : p.length ≤ 200) (level epoch : Int) : decE key level epoch ((whole key lev ep seq p).take (49 + p.length)) = 190 := by
  unfold decE
  refine if_pos fun h => ?_
  obtain ⟨h0, _, h, _⟩ := h
  have hl : ((whole key lev ep seq p).take (49 + p.length)).length = 49 + p.length := by rw [List.length_take, whole_length]; omega
  have hg : ((whole key lev ep seq p).take (49 + p.length)).getD 17 0 = UInt8.ofNat p.length := by
    have a := whole_get key lev ep seq p []
    rw [List.append_nil] at a
    rw [← a.2, List.getD_eq_getElem?_getD, List.getElem?_take, if_pos (by omega), List.getD_eq_getElem?_getD]
  rw [hg, hl] at h
  simp only [UInt8.toNat_ofNat'] at h
  omega
theorem take_one {l : List UInt8} (h : 0 < l.length) : l.take 1 = [l.getD 0 0] := by
  cases l with
  | nil => cases h
  | cons c r => rfl
theorem first18 (s : List UInt8) (h : 18 ≤ s.length) : s.getD 0 0 :: ((s.drop 1).take 8 ++ ((s.drop 9).take 8 ++ [s.getD 17 0])) = s.take 18 := by
  rw [show (18 : Nat) = 1 + (8 + (8 + 1)) from rfl, List.take_add, List.take_add, List.take_add, List.drop_drop, List.drop_drop, take_one (by omega), take_one (by rw [List.length_drop]; omega)]
  have e : (s.drop (1 + 8 + 8)).getD 0 0 = s.getD 17 0 := by
    rw [List.getD_eq_getElem?_getD, List.getD_eq_getElem?_getD, List.getElem?_drop]
  rw [e]
  rfl
/-- no other bytes are taken -/
theorem only {key : List UInt8} {level epoch : Int} {s : List UInt8} (h : decE key level epoch s = 0) :
    fine level epoch (decN key level epoch s) ∧ (decP key level epoch s).length ≤ 200 ∧ whole key level.toNat epoch.toNat (decN key level epoch s) (decP key level epoch s) = s := by
  have hN : decN key level epoch s = valN ((s.drop 9).take 8) := by unfold decN; rw [if_pos h]
  have hP : decP key level epoch s = (bodyOf s).drop 18 := by unfold decP; rw [if_pos h]
  unfold decE at h
  by_cases h1 : shaped s
  · rw [if_neg (not_not_intro h1)] at h
    by_cases h2 : Sha.mac key (bodyOf s) = tagOf s
    · rw [if_neg (not_not_intro h2)] at h
      by_cases h3 : labelled level epoch s
      · obtain ⟨a1, a2, a3, a4, a5, a6⟩ := h1
        obtain ⟨b1, b2⟩ := h3
        have hlb : (bodyOf s).length = s.length - 32 := by unfold bodyOf; rw [List.length_take]; omega
        have hlp : ((bodyOf s).drop 18).length = s.length - 50 := by rw [List.length_drop, hlb]; omega
        rw [hN, hP]
        refine ⟨⟨by omega, by omega, by omega, by omega, by omega, by omega⟩, by rw [hlp]; omega, ?_⟩
        have e1 : level.toNat = (s.getD 0 0).toNat := by omega
        have e2 : epoch.toNat = valN ((s.drop 1).take 8) := by omega
        have hb : body level.toNat epoch.toNat (valN ((s.drop 9).take 8)) ((bodyOf s).drop 18) = bodyOf s := by
          unfold body head
          rw [e1, e2, be8_val (by rw [List.length_take, List.length_drop]; omega), be8_val (by rw [List.length_take, List.length_drop]; omega), hlp, ofNat_toNat, show s.length - 50 = (s.getD 17 0).toNat from by omega, ofNat_toNat]
          have hs : s.getD 0 0 :: ((s.drop 1).take 8 ++ ((s.drop 9).take 8 ++ [s.getD 17 0])) = (bodyOf s).take 18 := by
            rw [first18 s (by omega)]
            unfold bodyOf
            rw [List.take_take, Nat.min_eq_left (by omega)]
          rw [hs]
          exact List.take_append_drop 18 _
        unfold whole
        rw [hb, h2]
        exact List.take_append_drop _ _
      · rw [if_pos h3] at h
        exact absurd h (by decide)
    · rw [if_pos h2] at h
      exact absurd h (by decide)
  · rw [if_pos h1] at h
    exact absurd h (by decide)
theorem encS_yes {key : List UInt8} {level epoch seq : Int} {p : List UInt8} (h : encE level epoch seq p = 0) : fine level epoch seq ∧ p.length ≤ 200 ∧ encS key level epoch seq p = whole key level.toNat epoch.toNat seq.toNat p := by
  unfold encE at h
  by_cases h1 : fine level epoch seq
  · rw [if_pos h1] at h
    by_cases h2 : p.length ≤ 200
    · unfold encS
      exact ⟨h1, h2, if_pos ⟨h1, h2⟩⟩
    · rw [if_neg h2] at h
      exact absurd h (by decide)
  · rw [if_neg h1] at h
    exact absurd h (by decide)
theorem encS_no {key : List UInt8} {level epoch seq : Int} {p : List UInt8} (h : encE level epoch seq p ≠ 0) : encS key level epoch seq p = [] := by
  unfold encS
  refine if_neg fun hh => h ?_
  unfold encE
  rw [if_pos hh.1, if_pos hh.2]
end Go.Proofs.Ytmmkopdijmplcaa.Frm
