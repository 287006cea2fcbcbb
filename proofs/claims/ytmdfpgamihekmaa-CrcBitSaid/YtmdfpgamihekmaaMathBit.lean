/- The plain law beneath CrcBit: what is xored into at most four bytes in a row turns the sum, unless it is nothing. No condition. -/
import Derived.Test.YtmdfpgamihekmaaMath
namespace Go.Proofs.Ytmdfpgamihekmaa.CrcM
theorem fold_zero (n : Nat) : fold 0#32 (List.replicate n 0) = 0#32 := by
  induction n with
  | zero => rfl
  | succ n ih =>
    rw [List.replicate_succ, fold_cons, show bs 0#32 (0 : UInt8).toBitVec = 0#32 by decide, ih]
theorem bs_high (t : BitVec 32) (p : BitVec 8) (m : Nat) (hm : m ≤ 3) (h : ∀ i, 8 * m ≤ i → (bs t p).getLsbD i = false) : t ^^^ zx p = bs t p <<< 8 := by
  have h1 : bs t p = sts 8 (t ^^^ zx p) := bs_eq t p
  rw [h1]
  exact sts8_small _ (fun i hi => by rw [← h1]; exact h i (by omega))
theorem fold_high : ∀ (l : List UInt8) (t : BitVec 32), l.length ≤ 4 → fold t l = 0#32 → ∀ i, 8 * l.length ≤ i → t.getLsbD i = false
  | [], t, _, h, i, _ => by rw [show t = 0#32 from h]; simp
  | p :: l, t, hl, h, i, hi => by
    simp only [List.length_cons] at hl hi
    have ih := fold_high l (bs t p.toBitVec) (by omega) h
    have e := bs_high t p.toBitVec l.length (by omega) ih
    have e2 : t = (bs t p.toBitVec <<< 8) ^^^ zx p.toBitVec := by rw [← e, BitVec.xor_assoc]; simp
    rw [e2]
    by_cases hi32 : i < 32
    · have h8 : ¬ i < 8 := by omega
      have hz : (zx p.toBitVec).getLsbD i = false := by unfold zx; simp; intro _; exact BitVec.getLsbD_of_ge _ _ (by omega)
      simp only [BitVec.getLsbD_xor, BitVec.getLsbD_shiftLeft, hz, ih (i - 8) (by omega)]
      simp
    · exact BitVec.getLsbD_of_ge _ _ (by omega)
theorem fold_none : ∀ (l : List UInt8), l.length ≤ 4 → fold 0#32 l = 0#32 → ∀ p ∈ l, p = 0
  | [], _, _, p, hp => by cases hp
  | q :: l, hl, h, p, hp => by
    simp only [List.length_cons] at hl
    have ih := fold_high l (bs 0#32 q.toBitVec) (by omega) h
    have e := bs_high 0#32 q.toBitVec l.length (by omega) ih
    have hq : q.toBitVec = 0#8 := by
      apply BitVec.eq_of_getLsbD_eq
      intro i hi
      have := congrArg (fun x => x.getLsbD i) e
      simp [zx, show i < 32 by omega, hi] at this
      rw [← BitVec.getLsbD_eq_getElem] at this
      simpa using this
    have hq0 : q = 0 := UInt8.eq_of_toBitVec_eq hq
    subst hq0
    have hb : bs 0#32 (0 : UInt8).toBitVec = 0#32 := by decide
    have h2 : fold 0#32 l = 0#32 := by rw [fold_cons, hb] at h; exact h
    rcases List.mem_cons.1 hp with rfl | hp
    · rfl
    · exact fold_none l (by omega) h2 p hp
/-- Bytes among two texts that are alike but for some in the midst. -/
theorem sum_diff (a b ps : List UInt8) (k m : Nat) (hlen : a.length = b.length) (hx : xorL a b = List.replicate k 0 ++ ps ++ List.replicate m 0) (h4 : ps.length ≤ 4) : (sum a = sum b ↔ ∀ p ∈ ps, p = 0) := by
  have h1 := fold_xor a b (~~~ 0#32) (~~~ 0#32) hlen
  rw [show (~~~ 0#32 ^^^ ~~~ 0#32 : BitVec 32) = 0#32 by decide, hx, fold_append, fold_append, fold_zero] at h1
  have h2 : (sum a = sum b) ↔ fold (~~~ 0#32) a = fold (~~~ 0#32) b := by
    unfold sum more
    constructor
    · intro h; simpa using congrArg (~~~ ·) h
    · intro h; rw [h]
  rw [h2]
  constructor
  · intro h
    rw [h] at h1
    rw [show fold (~~~ 0#32) b ^^^ fold (~~~ 0#32) b = 0#32 by simp] at h1
    have h3 : fold 0#32 ps = 0#32 := fold_inj (List.replicate m 0) _ _ (by rw [h1, fold_zero])
    exact fold_none ps h4 h3
  · intro h
    have h3 : ps = List.replicate ps.length 0 := List.eq_replicate_iff.2 ⟨rfl, h⟩
    rw [h3, fold_zero, fold_zero] at h1
    exact BitVec.xor_eq_zero_iff.1 h1.symm
/-- Byte j of a number of 32 bits. -/
def pat (y : BitVec 32) (j : Nat) : UInt8 := ⟨(y >>> (8 * j)).setWidth 8⟩
/-- A text whose bytes from k on are xored with the first j bytes of a number. -/
def fl (q : List UInt8) (y : BitVec 32) (k : Nat) : Nat → List UInt8
  | 0 => q
  | j + 1 => (fl q y k j).set (k + j) ((fl q y k j).getD (k + j) 0 ^^^ pat y j)
theorem fl_length (q : List UInt8) (y : BitVec 32) (k : Nat) : ∀ j, (fl q y k j).length = q.length
  | 0 => rfl
  | j + 1 => by rw [fl, List.length_set, fl_length q y k j]
theorem fl_get (q : List UInt8) (y : BitVec 32) (k : Nat) : ∀ j i, i < q.length → (fl q y k j)[i]? = some (q.getD i 0 ^^^ (if k ≤ i ∧ i < k + j then pat y (i - k) else 0))
  | 0, i, h => by
    rw [fl, if_neg (by omega), List.getD_eq_getElem?_getD, List.getElem?_eq_getElem h]; simp
  | j + 1, i, h => by
    rw [fl, List.getElem?_set]
    by_cases e : k + j = i
    · rw [if_pos e, if_pos (by rw [fl_length, e]; exact h), if_pos (by omega), List.getD_eq_getElem?_getD, e, fl_get q y k j i h, if_neg (by omega), show i - k = j by omega]; simp
    · rw [if_neg e, fl_get q y k j i h]
      have : (k ≤ i ∧ i < k + j) = (k ≤ i ∧ i < k + (j + 1)) := by apply propext; omega
      simp only [this]
def sm (y : BitVec 32) (j : Nat) : Bool := (List.range j).all fun i => pat y i == 0
theorem sm_succ (y : BitVec 32) (j : Nat) : sm y (j + 1) = (sm y j && (pat y j == 0)) := by simp [sm, List.range_succ]
theorem fl_sum (q : List UInt8) (y : BitVec 32) (k j : Nat) (hj : j ≤ 4) (hk : k + j ≤ q.length) : (sum (fl q y k j) == sum q) = sm y j := by
  have hx : xorL (fl q y k j) q = List.replicate k 0 ++ (List.range j).map (pat y) ++ List.replicate (q.length - k - j) 0 := by
    apply List.ext_getElem?
    intro i
    unfold xorL
    rw [List.getElem?_zipWith]
    by_cases h : i < q.length
    · rw [fl_get q y k j i h, List.getElem?_eq_getElem h, List.getD_eq_getElem?_getD, List.getElem?_eq_getElem h]
      by_cases h1 : i < k
      · rw [if_neg (by omega), List.getElem?_append_left (by simp; omega), List.getElem?_append_left (by simp; omega)]
        simp [h1]
      · by_cases h2 : i < k + j
        · rw [if_pos (by omega), List.getElem?_append_left (by simp; omega), List.getElem?_append_right (by simp; omega)]
          simp [show i - k < j by omega]
          rw [UInt8.xor_comm q[i], UInt8.xor_assoc]; simp
        · rw [if_neg (by omega), List.getElem?_append_right (by simp; omega)]
          simp
          rw [List.getElem?_replicate, if_pos (by omega)]
    · have e1 : (fl q y k j)[i]? = none := List.getElem?_eq_none (by rw [fl_length]; omega)
      have e2 : (List.replicate k 0 ++ (List.range j).map (pat y) ++ List.replicate (q.length - k - j) 0)[i]? = none := List.getElem?_eq_none (by simp only [List.length_append, List.length_replicate, List.length_map, List.length_range]; omega)
      rw [e1, e2]
  have := sum_diff (fl q y k j) q _ _ _ (fl_length q y k j) hx (by simp; exact hj)
  rw [Bool.eq_iff_iff, beq_iff_eq, this]
  simp [sm]
end Go.Proofs.Ytmdfpgamihekmaa.CrcM
