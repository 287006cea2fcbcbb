/- The words in which the walks of chapter 5 speak of numbers: 32 bits as an Int, a byte as an Int, the table's cells. No condition. -/
import Derived.Test.YtmjeanbbhacnaaaMath
import Derived.WalkKit
import Derived.WalkSpells
namespace Go.Proofs.Ytmjeanbbhacnaaa
open Go.RowKit
/-- A number of 32 bits, as the walk bears it. -/
def U (x : BitVec 32) : Int := (x.toNat : Int)
/-- A byte, as the walk bears it. -/
def V (x : BitVec 8) : Int := (x.toNat : Int)
theorem U_lo (a : BitVec 32) : 0 ≤ U a := by unfold U; omega
theorem U_hi (a : BitVec 32) : U a < 4294967296 := by unfold U; have := a.isLt; omega
theorem V_lo (a : BitVec 8) : 0 ≤ V a := by unfold V; omega
theorem V_hi (a : BitVec 8) : V a < 256 := by unfold V; have := a.isLt; omega
theorem U_inj {a b : BitVec 32} (h : U a = U b) : a = b := by unfold U at h; exact BitVec.eq_of_toNat_eq (by omega)
theorem xor32 (a b : BitVec 32) : bits .xor .u32 (U a) (U b) = U (a ^^^ b) := by
  unfold U; rw [u32_xor_nat _ _ a.isLt b.isLt]; rfl
theorem xor32_poly (a : BitVec 32) : bits .xor .u32 (U a) 3988292384 = U (a ^^^ CrcM.poly) := xor32 a CrcM.poly
theorem xor8 (a b : BitVec 8) : bits .xor .u8 (V a) (V b) = V (a ^^^ b) := by
  unfold V; rw [u8_xor_nat _ _ a.isLt b.isLt]; rfl
theorem shr1 (a : BitVec 32) : U a / (2 : Int) = U (a >>> 1) := by
  unfold U; rw [BitVec.toNat_ushiftRight, Nat.shiftRight_eq_div_pow]; simp
theorem stI_eq (a : BitVec 32) : bits .xor .u32 (U a / (2 : Int)) (3988292384 * bits .and .u32 (U a) 1 % (4294967296 : Int)) = U (CrcM.st a) := by
  have e : (1 : Int) = ((1 : Nat) : Int) := rfl
  have h1 : bits .and .u32 (U a) 1 = ((a.toNat % 2 : Nat) : Int) := by
    unfold U; rw [e, u32_and_nat _ _ a.isLt (by decide), Nat.and_one_is_mod]
  have h2 : a.getLsbD 0 = decide (a.toNat % 2 = 1) := by rw [BitVec.getLsbD, Nat.testBit_zero]
  rw [h1, shr1]
  unfold CrcM.st
  rw [h2]
  rcases Nat.mod_two_eq_zero_or_one a.toNat with h | h
  · rw [h]; simp; exact xor32 _ 0#32 |>.trans (by simp)
  · rw [h]; simp; exact xor32_poly _
theorem shr8 (a : BitVec 32) : U a / (256 : Int) = U (a >>> 8) := by
  unfold U; rw [BitVec.toNat_ushiftRight, Nat.shiftRight_eq_div_pow]; simp
theorem odd (a : BitVec 32) : (U a % (2 : Int) == (1 : Int)) = a.getLsbD 0 := by
  unfold U
  rw [BitVec.getLsbD, Nat.testBit_zero, Bool.eq_iff_iff]; simp; omega
def stepI (s v : Int) : Int := if (bits .xor .u32 s v % 2 == 1) = true then bits .xor .u32 (s / 2) 3988292384 else s / 2
theorem stepI_U (s v : BitVec 32) : stepI (U s) (U v) = U (CrcM.rst s v) := by
  unfold stepI CrcM.rst
  rw [xor32, odd, shr1]
  cases (s ^^^ v).getLsbD 0
  · simp
  · simp [xor32_poly]
def stsI (b : BitVec 8) (k : Nat) : Int := U (CrcM.sts k (CrcM.zx b))
theorem rst_zero (a : BitVec 32) : CrcM.rst a 0#32 = CrcM.st a := by unfold CrcM.rst CrcM.st; simp
theorem stsI_zero (b : BitVec 8) : stsI b 0 = V b := by
  unfold stsI U V CrcM.sts CrcM.zx; simp; have := b.isLt; omega
theorem stsI_succ (b : BitVec 8) (k : Nat) : U (CrcM.rst (CrcM.sts k (CrcM.zx b)) 0#32) = stsI b (k + 1) := by
  unfold stsI; rw [rst_zero, CrcM.sts_succ]
theorem stsI_step (b : BitVec 8) (k : Nat) : bits .xor .u32 (stsI b k / (2 : Int)) (3988292384 * bits .and .u32 (stsI b k) 1 % (4294967296 : Int)) = stsI b (k + 1) := by
  unfold stsI; rw [stI_eq, CrcM.sts_succ]
/-- The table's cells behind k rounds. -/
def rowT (k : Nat) : Array Value := ((List.range 256).map fun i => Value.int .u32 (if i < k then U (CrcM.tab (BitVec.ofNat 8 i)) else 0)).toArray
def zeroT : Array Value := Array.replicate 256 (.int .u32 0)
theorem rowT_size (k : Nat) : (rowT k).size = 256 := by simp [rowT]
theorem rowT_get (k i : Nat) (h : i < 256) : (rowT k)[i]? = some (.int .u32 (if i < k then U (CrcM.tab (BitVec.ofNat 8 i)) else 0)) := by
  simp [rowT, h]
theorem rowT_zero : rowT 0 = zeroT := by
  apply Array.ext_getElem?
  intro i
  by_cases h : i < 256
  · rw [rowT_get 0 i h]; simp [zeroT, h]
  · rw [Array.getElem?_eq_none (by rw [rowT_size]; omega), Array.getElem?_eq_none (by simp [zeroT]; omega)]
theorem rowT_succ (k : Nat) (hk : k < 256) : (rowT k).setIfInBounds k (.int .u32 (U (CrcM.tab (BitVec.ofNat 8 k)))) = rowT (k + 1) := by
  apply Array.ext_getElem?
  intro i
  by_cases h : i < 256
  · rw [Array.getElem?_setIfInBounds, rowT_get (k+1) i h]
    by_cases e : k = i
    · subst e; simp [rowT_size, hk]
    · rw [if_neg e, rowT_get k i h]
      have : (i < k) = (i < k + 1) := by apply propext; omega
      simp [this]
  · rw [Array.getElem?_eq_none (by simp [rowT_size]; omega), Array.getElem?_eq_none (by rw [rowT_size]; omega)]
/-- T is the table. -/
structure IsTab (T : Array Value) : Prop where
  size : T.size = 256
  one : T.all (·.oneCell') = true
  get : ∀ b : BitVec 8, T[b.toNat]? = some (.int .u32 (U (CrcM.tab b)))
theorem rowT_tab : IsTab (rowT 256) := by
  refine ⟨rowT_size 256, by simp [rowT, Value.oneCell'], fun b => ?_⟩
  rw [rowT_get 256 b.toNat b.isLt, if_pos b.isLt, BitVec.ofNat_toNat, BitVec.setWidth_eq]
theorem zeroT_size : zeroT.size = 256 := by simp [zeroT]
/-- The sum behind k bytes. -/
def fB (a : BitVec 32) (s : ByteArray) (k : Nat) : BitVec 32 := CrcM.fold (~~~ a) (s.data.toList.take k)
theorem fB_succ (a : BitVec 32) (s : ByteArray) (k : Nat) (h : k < s.size) : fB a s (k + 1) = CrcM.bs (fB a s k) s[k].toBitVec := by
  unfold fB
  rw [List.take_succ_eq_append_getElem (by simpa using h), CrcM.fold_snoc]; rfl
theorem fB_all (a : BitVec 32) (s : ByteArray) : fB a s s.size = CrcM.fold (~~~ a) s.data.toList := by
  unfold fB; rw [List.take_of_length_le (by simp)]
theorem xor8w (a : BitVec 32) (c : UInt8) : bits .xor .u8 (U a % (256 : Int)) (c.toNat : Int) = V (a.setWidth 8 ^^^ c.toBitVec) := by
  have h : U a % (256 : Int) = V (a.setWidth 8) := by unfold U V; rw [BitVec.toNat_setWidth]; simp
  rw [h]; exact xor8 _ _
theorem not32 (a : BitVec 32) : bits .xor .u32 4294967295 (U a) = U (~~~ a) := by
  have h : (4294967295 : Int) = U (BitVec.allOnes 32) := by decide
  rw [h, xor32, BitVec.allOnes_xor]
theorem shrk (b : BitVec 8) (k : Nat) : V b / (2 ^ k : Int) = U (CrcM.zx b >>> k) := by
  unfold U V CrcM.zx; rw [BitVec.toNat_ushiftRight, Nat.shiftRight_eq_div_pow]; simp
  rw [Int.emod_eq_of_lt (by omega) (by have := b.isLt; omega)]
theorem bit_of (c : UInt8) (j : Nat) : ((c.toNat : Int) / (2 ^ j : Int)) % (4294967296 : Int) = U (CrcM.zx c.toBitVec >>> j) := by
  rw [← shrk]
  have h1 : (c.toNat : Int) = V c.toBitVec := by unfold V; rfl
  rw [h1]
  have h0 := V_lo c.toBitVec
  have h2 := V_hi c.toBitVec
  have h3 : V c.toBitVec / (2 ^ j : Int) ≤ V c.toBitVec := Int.ediv_le_self _ h0
  have h4 : 0 ≤ V c.toBitVec / (2 ^ j : Int) := Int.ediv_nonneg h0 (Int.pow_nonneg (by decide))
  exact Int.emod_eq_of_lt h4 (by omega)
theorem stsI_def (b : BitVec 8) (k : Nat) : stsI b k = U (CrcM.sts k (CrcM.zx b)) := rfl
theorem V_nat (b : BitVec 8) : (V b).toNat = b.toNat := by unfold V; simp
theorem V_byte (c : UInt8) : (c.toNat : Int) = V c.toBitVec := by unfold V; rfl
theorem U_zero : (0 : Int) = U 0#32 := by decide
theorem U_poly : (3988292384 : Int) = U CrcM.poly := by decide
theorem zeroT_idx (k : Nat) (hk : k < 256) : (k : Int) = V (BitVec.ofNat 8 k) := by unfold V; rw [BitVec.toNat_ofNat]; congr 1; omega
theorem U_eq (a b : BitVec 32) : (U a == U b) = (a == b) := by
  rw [Bool.eq_iff_iff]; simp only [beq_iff_eq]; exact ⟨U_inj, fun h => by rw [h]⟩
theorem U_of {n : Int} (h : (Lit.int .u32 n).wf = true) : ∃ a : BitVec 32, n = U a := by
  have hx : 0 ≤ n ∧ n ≤ 4294967295 := by simpa [Lit.wf, IntKind.min, IntKind.max, IntKind.signed, IntKind.bits] using h
  refine ⟨BitVec.ofNat 32 n.toNat, ?_⟩
  unfold U; rw [BitVec.toNat_ofNat]; omega
theorem V_of {n : Int} (h : (Lit.int .u8 n).wf = true) : ∃ a : BitVec 8, n = V a := by
  have hx : 0 ≤ n ∧ n ≤ 255 := by simpa [Lit.wf, IntKind.min, IntKind.max, IntKind.signed, IntKind.bits] using h
  refine ⟨BitVec.ofNat 8 n.toNat, ?_⟩
  unfold V; rw [BitVec.toNat_ofNat]; omega
attribute [irreducible] U V
end Go.Proofs.Ytmjeanbbhacnaaa
