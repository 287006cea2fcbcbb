/- The plain mathematics of the sums of chapter 5: a table's entry is eight steps of one bit; a byte's step is linear and injective. No condition. -/
namespace Go.Proofs.Ytmjeanbbhacnaaa.CrcM

def poly : BitVec 32 := 0xedb88320#32
def st (n : BitVec 32) : BitVec 32 := (n >>> 1) ^^^ (if n.getLsbD 0 then poly else 0#32)

theorem st_xor (a b : BitVec 32) : st (a ^^^ b) = st a ^^^ st b := by
  unfold st
  have h : (a ^^^ b).getLsbD 0 = (a.getLsbD 0 ^^ b.getLsbD 0) := by simp
  rw [h]
  cases a.getLsbD 0 <;> cases b.getLsbD 0 <;> rw [BitVec.ushiftRight_xor_distrib] <;> simp [BitVec.xor_assoc]
  · rw [BitVec.xor_comm (b >>> 1) poly]
  · rw [← BitVec.xor_assoc poly, BitVec.xor_comm poly, BitVec.xor_assoc, ]; simp

def sts : Nat → BitVec 32 → BitVec 32
  | 0, n => n
  | k + 1, n => sts k (st n)

theorem st_zero : st 0#32 = 0#32 := by decide
theorem sts_zero (k : Nat) : sts k 0#32 = 0#32 := by
  induction k with
  | zero => rfl
  | succ k ih => simp [sts, st_zero, ih]
theorem sts_xor (k : Nat) : ∀ a b : BitVec 32, sts k (a ^^^ b) = sts k a ^^^ sts k b := by
  induction k with
  | zero => intro a b; rfl
  | succ k ih => intro a b; simp [sts, st_xor, ih]

/-- st is injective at 0. -/
theorem st_eq_zero (a : BitVec 32) (h : st a = 0#32) : a = 0#32 := by
  unfold st at h
  have h31 : (((a >>> 1) ^^^ (if a.getLsbD 0 then poly else 0#32)) : BitVec 32).getLsbD 31 = false := by rw [h]; rfl
  have h0 : a.getLsbD 0 = false := by
    cases ha : a.getLsbD 0 with
    | false => rfl
    | true => rw [ha] at h31; simp [poly] at h31
  rw [h0] at h
  simp at h
  apply BitVec.eq_of_getLsbD_eq
  intro i hi
  cases i with
  | zero => simp only [h0]; rfl
  | succ i =>
    have : (a >>> 1).getLsbD i = false := by rw [h]; simp
    rw [BitVec.getLsbD_ushiftRight, Nat.add_comm] at this
    simpa using this
theorem sts_eq_zero (k : Nat) : ∀ a : BitVec 32, sts k a = 0#32 → a = 0#32 := by
  induction k with
  | zero => intro a h; exact h
  | succ k ih => intro a h; exact st_eq_zero _ (ih _ h)

/-- A sum whose low bit is not set. -/
theorem st_even (a : BitVec 32) (h : a.getLsbD 0 = false) : st a = a >>> 1 := by
  unfold st; rw [h]; simp

theorem sts_high (k : Nat) : ∀ a : BitVec 32, (∀ i, i < k → a.getLsbD i = false) → sts k a = a >>> k := by
  induction k with
  | zero => intro a _; simp [sts]
  | succ k ih =>
    intro a h
    show sts k (st a) = _
    rw [st_even a (h 0 (by omega)), ih]
    · apply BitVec.eq_of_getLsbD_eq; intro i hi
      simp [BitVec.getLsbD_ushiftRight]; congr 1; omega
    · intro i hi
      rw [BitVec.getLsbD_ushiftRight]; exact h _ (by omega)

def zx (b : BitVec 8) : BitVec 32 := b.setWidth 32
def tab (b : BitVec 8) : BitVec 32 := sts 8 (zx b)
def bs (s : BitVec 32) (b : BitVec 8) : BitVec 32 := (s >>> 8) ^^^ tab (s.setWidth 8 ^^^ b)

theorem sts8 (x : BitVec 32) : sts 8 x = (x >>> 8) ^^^ tab (x.setWidth 8) := by
  have e : x = ((x >>> 8) <<< 8) ^^^ zx (x.setWidth 8) := by
    apply BitVec.eq_of_getLsbD_eq; intro i hi
    simp [zx, BitVec.getLsbD_setWidth]
    by_cases h : i < 8
    · simp [h, hi]
    · simp [h, hi]
      rw [show 8 + (i - 8) = i by omega, BitVec.getLsbD_eq_getElem hi]
  have h1 : sts 8 ((x >>> 8) <<< 8) = x >>> 8 := by
    rw [sts_high]
    · apply BitVec.eq_of_getLsbD_eq; intro i hi
      simp
      exact fun h => BitVec.lt_of_getLsbD h
    · intro i hi; simp [hi]
  conv => lhs; rw [e]
  rw [sts_xor, h1]; rfl

theorem bs_eq (s : BitVec 32) (b : BitVec 8) : bs s b = sts 8 (s ^^^ zx b) := by
  rw [sts8]
  unfold bs
  congr 1
  · apply BitVec.eq_of_getLsbD_eq; intro i hi
    simp [zx, BitVec.getLsbD_setWidth]
  · congr 1
    apply BitVec.eq_of_getLsbD_eq; intro i hi
    simp [zx, hi]

theorem tab_xor (a b : BitVec 8) : tab (a ^^^ b) = tab a ^^^ tab b := by
  unfold tab; rw [← sts_xor]; congr 1
theorem zx_xor (a b : BitVec 8) : zx (a ^^^ b) = zx a ^^^ zx b := by
  unfold zx; apply BitVec.eq_of_getLsbD_eq; intro i hi; simp [hi]
theorem bs_xor (s t : BitVec 32) (a b : BitVec 8) : bs (s ^^^ t) (a ^^^ b) = bs s a ^^^ bs t b := by
  rw [bs_eq, bs_eq, bs_eq, ← sts_xor, zx_xor]
  have e : s ^^^ t ^^^ (zx a ^^^ zx b) = s ^^^ zx a ^^^ (t ^^^ zx b) := by
    rw [BitVec.xor_assoc, BitVec.xor_assoc, ← BitVec.xor_assoc t, ← BitVec.xor_assoc (zx a), BitVec.xor_comm t]
  rw [e]

/-- A sum gone on with over bytes. -/
def fold (s : BitVec 32) (l : List UInt8) : BitVec 32 := l.foldl (fun s c => bs s c.toBitVec) s
def more (s : BitVec 32) (l : List UInt8) : BitVec 32 := ~~~ fold (~~~ s) l
def sum (l : List UInt8) : BitVec 32 := more 0#32 l

theorem fold_append (s : BitVec 32) (a b : List UInt8) : fold s (a ++ b) = fold (fold s a) b := by simp [fold]
theorem fold_snoc (s : BitVec 32) (a : List UInt8) (c : UInt8) : fold s (a ++ [c]) = bs (fold s a) c.toBitVec := by simp [fold]
theorem fold_cons (s : BitVec 32) (c : UInt8) (a : List UInt8) : fold s (c :: a) = fold (bs s c.toBitVec) a := rfl

theorem more_parts (a b : List UInt8) : more (sum a) b = sum (a ++ b) := by
  unfold sum more; rw [BitVec.not_not, fold_append]
theorem more_nil (s : BitVec 32) : more s [] = s := by simp [more, fold]

/-- A sum moved by one bit, as the chapter says. -/
def rst (s v : BitVec 32) : BitVec 32 := (s >>> 1) ^^^ (if (s ^^^ v).getLsbD 0 then poly else 0#32)
/-- The sum behind k bits of a byte. -/
def rk (s : BitVec 32) (b : BitVec 8) (k : Nat) : BitVec 32 := sts k (s ^^^ zx b) ^^^ (zx b >>> k)
theorem sts_succ (k : Nat) : ∀ a : BitVec 32, sts (k + 1) a = st (sts k a) := by
  induction k with
  | zero => intro a; rfl
  | succ k ih => intro a; show sts (k + 1) (st a) = _; rw [ih]; rfl
theorem rk_zero (s : BitVec 32) (b : BitVec 8) : rk s b 0 = s := by
  simp [rk, sts, BitVec.xor_assoc]
theorem rk_succ (s : BitVec 32) (b : BitVec 8) (k : Nat) : rk s b (k + 1) = rst (rk s b k) (zx b >>> k) := by
  unfold rst
  have e : rk s b k ^^^ (zx b >>> k) = sts k (s ^^^ zx b) := by simp [rk, BitVec.xor_assoc]
  rw [e]
  unfold rk
  rw [sts_succ, BitVec.ushiftRight_xor_distrib]
  unfold st
  rw [← BitVec.shiftRight_add (zx b) k 1]
  rw [BitVec.xor_assoc, BitVec.xor_assoc, BitVec.xor_comm (zx b >>> (k + 1))]
theorem rk_eight (s : BitVec 32) (b : BitVec 8) : rk s b 8 = bs s b := by
  rw [bs_eq, rk]
  have : zx b >>> 8 = 0#32 := by
    apply BitVec.eq_of_getLsbD_eq; intro i hi; simp [zx]
  rw [this]; simp

/-! ### the laws -/
def xorL (a b : List UInt8) : List UInt8 := List.zipWith (· ^^^ ·) a b
theorem fold_xor : ∀ (a b : List UInt8) (s t : BitVec 32), a.length = b.length → fold (s ^^^ t) (xorL a b) = fold s a ^^^ fold t b
  | [], [], s, t, _ => rfl
  | x :: a, y :: b, s, t, h => by
    show fold (bs (s ^^^ t) (x ^^^ y).toBitVec) (xorL a b) = _
    have e : (x ^^^ y).toBitVec = x.toBitVec ^^^ y.toBitVec := rfl
    rw [e, bs_xor, fold_xor a b _ _ (by simpa using h)]; rfl
theorem fold_inj : ∀ (l : List UInt8) (s t : BitVec 32), fold s l = fold t l → s = t := by
  intro l
  induction l with
  | nil => intro s t h; exact h
  | cons c l ih =>
    intro s t h
    have h1 : bs s c.toBitVec = bs t c.toBitVec := ih _ _ h
    rw [bs_eq, bs_eq] at h1
    have h2 : sts 8 ((s ^^^ zx c.toBitVec) ^^^ (t ^^^ zx c.toBitVec)) = 0#32 := by rw [sts_xor, h1]; simp
    have h3 := sts_eq_zero 8 _ h2
    have e : (s ^^^ zx c.toBitVec) ^^^ (t ^^^ zx c.toBitVec) = s ^^^ t := by
      rw [BitVec.xor_comm t, BitVec.xor_assoc, ← BitVec.xor_assoc (zx _) (zx _)]; simp
    rw [e] at h3
    exact BitVec.xor_eq_zero_iff.1 h3
theorem sum_xor3 (a b c : List UInt8) (h1 : a.length = b.length) (h2 : b.length = c.length) : sum (xorL (xorL a b) c) = sum a ^^^ sum b ^^^ sum c := by
  have hl : (xorL a b).length = c.length := by simp [xorL]; omega
  have e : (~~~ (0#32 : BitVec 32)) = (~~~ (0#32 : BitVec 32) ^^^ ~~~ (0#32 : BitVec 32)) ^^^ ~~~ (0#32 : BitVec 32) := by decide
  unfold sum more
  rw [show fold (~~~ 0#32) (xorL (xorL a b) c) = fold ((~~~ (0#32 : BitVec 32) ^^^ ~~~ (0#32 : BitVec 32)) ^^^ ~~~ (0#32 : BitVec 32)) (xorL (xorL a b) c) from by rw [← e], fold_xor _ _ _ _ hl, fold_xor _ _ _ _ h1]
  generalize fold (~~~ 0#32) a = x; generalize fold (~~~ 0#32) b = y; generalize fold (~~~ 0#32) c = z
  apply BitVec.eq_of_getLsbD_eq; intro i hi
  simp [hi]
/-- What lies over the four bytes of a sum. -/
theorem sts8_small (a : BitVec 32) (h : ∀ i, 24 ≤ i → (sts 8 a).getLsbD i = false) : a = sts 8 a <<< 8 := by
  have e : sts 8 (a ^^^ (sts 8 a <<< 8)) = 0#32 := by
    rw [sts_xor, sts_high 8 (sts 8 a <<< 8) (by intro i hi; simp [hi])]
    have : sts 8 a <<< 8 >>> 8 = sts 8 a := by
      apply BitVec.eq_of_getLsbD_eq; intro i hi
      simp
      by_cases h24 : 24 ≤ i
      · rw [h i h24]; simp
      · intro _; omega
    rw [this]; simp
  exact BitVec.xor_eq_zero_iff.1 (sts_eq_zero 8 _ e)
end Go.Proofs.Ytmjeanbbhacnaaa.CrcM
