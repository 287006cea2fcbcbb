/- A frame with a bit of its sum, or of its text, turned is none: plain laws on lists of bytes. -/
import Derived.Test.YtmjeanbbhacnaaaRecMends
namespace Go.Proofs.Ytmjeanbbhacnaaa
open Go.RowKit
namespace CrcM
theorem bs_byte (s : BitVec 32) (x y : BitVec 8) (h : bs s x = bs s y) : x = y := by
  rw [bs_eq, bs_eq] at h
  have h2 : sts 8 ((s ^^^ zx x) ^^^ (s ^^^ zx y)) = 0#32 := by rw [sts_xor, h]; simp
  have h3 := sts_eq_zero 8 _ h2
  have e : (s ^^^ zx x) ^^^ (s ^^^ zx y) = zx x ^^^ zx y := by
    rw [BitVec.xor_comm s (zx x), BitVec.xor_assoc, ← BitVec.xor_assoc s s]; simp
  rw [e] at h3
  have h4 := BitVec.xor_eq_zero_iff.1 h3
  unfold zx at h4
  have h5 := congrArg (BitVec.setWidth 8) h4
  simpa using h5
theorem fold_byte (a b : List UInt8) (x y : UInt8) (s : BitVec 32) (h : fold s (a ++ x :: b) = fold s (a ++ y :: b)) : x = y := by
  rw [fold_append, fold_append, fold_cons, fold_cons] at h
  have := bs_byte _ _ _ (fold_inj b _ _ h)
  cases x; cases y
  simpa using this
end CrcM
theorem fB4_num4 (a b c d : UInt8) : fB4 (num4 [a, b, c, d]) = [a, b, c, d] := by
  have key : ∀ (p q r s : BitVec 8), (((p.setWidth 32 <<< 24) ||| (q.setWidth 32 <<< 16) ||| (r.setWidth 32 <<< 8) ||| s.setWidth 32) >>> 24).setWidth 8 = p ∧ (((p.setWidth 32 <<< 24) ||| (q.setWidth 32 <<< 16) ||| (r.setWidth 32 <<< 8) ||| s.setWidth 32) >>> 16).setWidth 8 = q ∧
      (((p.setWidth 32 <<< 24) ||| (q.setWidth 32 <<< 16) ||| (r.setWidth 32 <<< 8) ||| s.setWidth 32) >>> 8).setWidth 8 = r ∧ ((p.setWidth 32 <<< 24) ||| (q.setWidth 32 <<< 16) ||| (r.setWidth 32 <<< 8) ||| s.setWidth 32).setWidth 8 = s := by
    intro p q r s
    refine ⟨?_, ?_, ?_, ?_⟩ <;> (apply BitVec.eq_of_getLsbD_eq; intro i hi; simp only [BitVec.getLsbD_or, BitVec.getLsbD_shiftLeft, BitVec.getLsbD_setWidth, BitVec.getLsbD_ushiftRight])
    · have e1 : 24 + i < 32 := by omega
      have e2 : ¬ 24 + i < 24 := by omega
      have e3 : ¬ 24 + i - 16 < 8 := by omega
      have e4 : ¬ 24 + i - 8 < 8 := by omega
      have e5 : ¬ 24 + i < 16 := by omega
      have e6 : ¬ 24 + i < 8 := by omega
      have e7 : 24 + i - 24 = i := by omega
      have e8 : i < 32 := by omega
      have g1 : q.getLsbD (24 + i - 16) = false := BitVec.getLsbD_of_ge _ _ (by omega)
      have g2 : r.getLsbD (24 + i - 8) = false := BitVec.getLsbD_of_ge _ _ (by omega)
      have g3 : s.getLsbD (24 + i) = false := BitVec.getLsbD_of_ge _ _ (by omega)
      simp [hi, e1, e2, e5, e6, e7, e8, g1, g2, g3]
    · have e1 : 16 + i < 32 := by omega
      have e2 : 16 + i < 24 := by omega
      have e5 : ¬ 16 + i < 16 := by omega
      have e6 : ¬ 16 + i < 8 := by omega
      have e7 : 16 + i - 16 = i := by omega
      have e8 : i < 32 := by omega
      have g2 : r.getLsbD (16 + i - 8) = false := BitVec.getLsbD_of_ge _ _ (by omega)
      have g3 : s.getLsbD (16 + i) = false := BitVec.getLsbD_of_ge _ _ (by omega)
      simp [hi, e1, e2, e5, e6, e7, e8, g2, g3]
    · have e1 : 8 + i < 32 := by omega
      have e2 : 8 + i < 24 := by omega
      have e5 : 8 + i < 16 := by omega
      have e6 : ¬ 8 + i < 8 := by omega
      have e7 : 8 + i - 8 = i := by omega
      have e8 : i < 32 := by omega
      have g3 : s.getLsbD (8 + i) = false := BitVec.getLsbD_of_ge _ _ (by omega)
      simp [hi, e1, e2, e5, e6, e7, e8, g3]
    · have e2 : i < 24 := by omega
      have e5 : i < 16 := by omega
      have e8 : i < 32 := by omega
      simp [hi, e2, e5, e8]
  obtain ⟨k1, k2, k3, k4⟩ := key a.toBitVec b.toBitVec c.toBitVec d.toBitVec
  unfold fB4 num4
  simp only [List.getD_cons_zero, List.getD_cons_succ]
  rw [k1, k2, k3, k4]
theorem oneL_turn (t r : List UInt8) (ht : t.length ≤ 65536) (p : Nat) (h4 : 4 ≤ p) (hp : p < t.length + 8) (v : UInt8) (hv : (frameL t ++ r)[p]? ≠ some v) : oneL ((frameL t ++ r).set p v) = none := by
  obtain ⟨A, hA⟩ : ∃ A, A = fB4 (BitVec.ofNat 32 t.length) := ⟨_, rfl⟩
  obtain ⟨S, hS⟩ : ∃ S, S = CrcM.more (CrcM.sum A) t := ⟨_, rfl⟩
  have hAl : A.length = 4 := by rw [hA]; rfl
  have hl : frameL t ++ r = A ++ (fB4 S ++ (t ++ r)) := by
    unfold frameL
    rw [hS, hA, List.append_assoc, List.append_assoc]
  have hlen : ((frameL t ++ r).set p v).length = t.length + 8 + r.length := by rw [List.length_set, List.length_append, frameL_length]
  rw [hl, List.set_append, if_neg (by omega), hAl] at hlen ⊢
  rw [hl, List.getElem?_append_right (by omega), hAl] at hv
  have hnum : ∀ Y : List UInt8, num4 (A ++ Y) = BitVec.ofNat 32 t.length := fun Y => by rw [hA]; exact num4_fB4 _ _
  have htk : ∀ Y : List UInt8, (A ++ Y).take 4 = A := fun Y => by rw [← hAl, List.take_left']; rfl
  have hd4 : ∀ Y : List UInt8, (A ++ Y).drop 4 = Y := fun Y => by rw [← hAl, List.drop_left']; rfl
  unfold oneL
  rw [hlen, hnum, num_len t ht, htk, hd4, if_neg (by omega), if_neg (by omega)]
  have hd8 : ∀ Y : List UInt8, (A ++ Y).drop 8 = Y.drop 4 := fun Y => by rw [show (8 : Nat) = 4 + 4 from rfl, ← List.drop_drop, hd4]
  rw [hd8]
  by_cases h8 : p < 8
  · -- the sum
    have hset : (fB4 S ++ (t ++ r)).set (p - 4) v = (fB4 S).set (p - 4) v ++ (t ++ r) := by rw [List.set_append, if_pos (by rw [fB4_length]; omega)]
    rw [hset]
    rw [List.getElem?_append_left (by rw [fB4_length]; omega)] at hv
    have hsl : ((fB4 S).set (p - 4) v).length = 4 := by rw [List.length_set, fB4_length]
    rw [List.drop_left' hsl, List.take_left' rfl, if_neg]
    intro e
    rw [← hS] at e
    have hne : (fB4 S).set (p - 4) v ≠ fB4 S := fun e2 => by
      apply hv
      rw [← e2]
      rw [List.getElem?_set_self (by rw [fB4_length]; omega)]
    apply hne
    match h : (fB4 S).set (p - 4) v, hsl with
    | [a, b, c, d], _ =>
      rw [h] at e
      have e3 : num4 ([a, b, c, d] ++ (t ++ r)) = num4 [a, b, c, d] := num4_append4 _ _ rfl
      rw [e3] at e
      rw [← fB4_num4 a b c d, ← e]
  · -- the text
    have hp8 : p - 4 - 4 < t.length := by omega
    have hset : (fB4 S ++ (t ++ r)).set (p - 4) v = fB4 S ++ (t.set (p - 4 - 4) v ++ r) := by rw [List.set_append, if_neg (by rw [fB4_length]; omega), fB4_length, List.set_append, if_pos hp8]
    rw [hset]
    rw [List.getElem?_append_right (by rw [fB4_length]; omega), fB4_length, List.getElem?_append_left hp8] at hv
    rw [List.drop_left' (fB4_length _), List.take_left' (by rw [List.length_set]), num4_fB4, if_neg]
    intro e
    rw [hS] at e
    unfold CrcM.more at e
    have e2 : CrcM.fold (~~~ CrcM.sum A) (t.set (p - 4 - 4) v) = CrcM.fold (~~~ CrcM.sum A) t := by
      have := congrArg (fun x => ~~~ x) e
      simpa using this
    have es : t.set (p - 4 - 4) v = t.take (p - 4 - 4) ++ v :: t.drop (p - 4 - 4 + 1) := List.set_eq_take_append_cons_drop.trans (by rw [if_pos hp8])
    have et : t = t.take (p - 4 - 4) ++ t[p - 4 - 4] :: t.drop (p - 4 - 4 + 1) := by rw [List.getElem_cons_drop, List.take_append_drop]
    rw [es] at e2
    have e3 : CrcM.fold (~~~ CrcM.sum A) (t.take (p - 4 - 4) ++ v :: t.drop (p - 4 - 4 + 1)) = CrcM.fold (~~~ CrcM.sum A) (t.take (p - 4 - 4) ++ t[p - 4 - 4] :: t.drop (p - 4 - 4 + 1)) := by rw [← et]; exact e2
    have := CrcM.fold_byte _ _ _ _ _ e3
    exact hv (by rw [List.getElem?_eq_getElem hp8, this])
theorem frameAll_append (a b : List (List UInt8)) : frameAll (a ++ b) = frameAll a ++ frameAll b := by simp [frameAll]
/-- Texts in frames: what is there, where a byte of frame n is another one, or all from there on is cut. -/
theorem back_at (ts : List (List UInt8)) (hts : ∀ t ∈ ts, t.length ≤ 65536) (n : Nat) (hn : n < ts.length) (p : Nat) (h1 : fsize (ts.take n) + 4 ≤ p) (h2 : p < fsize (ts.take (n + 1))) (v : UInt8) (hv : (frameAll ts)[p]? ≠ some v) :
    framesL ((frameAll ts).set p v) = ts.take n ∧ framesL ((frameAll ts).take p) = ts.take n := by
  obtain ⟨A, hA⟩ : ∃ A, A = ts.take n := ⟨_, rfl⟩
  obtain ⟨t, ht⟩ : ∃ t, t = ts[n] := ⟨_, rfl⟩
  obtain ⟨R, hR⟩ : ∃ R, R = ts.drop (n + 1) := ⟨_, rfl⟩
  have hsplit : ts = A ++ (t :: R) := by rw [hA, ht, hR, List.getElem_cons_drop, List.take_append_drop]
  have hAl : ∀ x ∈ A, x.length ≤ 65536 := fun x hx => hts x (by rw [hsplit]; exact List.mem_append_left _ hx)
  have htl : t.length ≤ 65536 := hts t (by rw [hsplit]; simp)
  have hall : frameAll ts = frameAll A ++ (frameL t ++ frameAll R) := by rw [hsplit, frameAll_append, frameAll_cons]
  have hs1 : fsize (ts.take (n + 1)) = fsize A + (t.length + 8) := by rw [List.take_succ_eq_append_getElem hn, fsize_append, ← hA, ← ht, fsize_one]
  rw [hs1] at h2
  rw [← hA] at h1 ⊢
  have hfa := frameAll_length A
  rw [hall] at hv ⊢
  rw [List.getElem?_append_right (by omega), hfa] at hv
  constructor
  · have e : (frameAll A ++ (frameL t ++ frameAll R)).set p v = frameAll A ++ ((frameL t ++ frameAll R).set (p - fsize A) v) := by rw [List.set_append, if_neg (by omega), hfa]
    rw [e, framesL_all A _ hAl, framesL_none (oneL_turn t _ htl _ (by omega) (by omega) v hv), List.append_nil]
  · have e : (frameAll A ++ (frameL t ++ frameAll R)).take p = frameAll A ++ ((frameL t).take (p - fsize A)) := by
      rw [List.take_append, List.take_of_length_le (by omega), hfa, List.take_append, show p - fsize A - (frameL t).length = 0 by rw [frameL_length]; omega, List.take_zero, List.append_nil]
    rw [e, framesL_all A _ hAl, framesL_none (oneL_torn t htl _ (by omega)), List.append_nil]
theorem fsize_take_le (ts : List (List UInt8)) (n : Nat) : fsize (ts.take n) ≤ fsize ts := by
  have := fsize_append (ts.take n) (ts.drop n)
  rw [List.take_append_drop] at this
  omega
end Go.Proofs.Ytmjeanbbhacnaaa
