import Derived.Test.YtmjeanbbhacnaaaRefFrame
import Derived.Laws.Strings
namespace Go.Proofs.Ytmjeanbbhacnaaa
open Go.RowKit
theorem or64 (a b : BitVec 32) : bits .or .i64 (U a) (U b) = U (a ||| b) := by
  have ha := a.isLt
  have hb := b.isLt
  have hx : a.toNat ||| b.toNat < 2 ^ 32 := Nat.or_lt_two_pow ha hb
  unfold U
  show IntKind.i64.wrap ((BitVec.ofInt 64 (a.toNat : Int) ||| BitVec.ofInt 64 (b.toNat : Int)).toNat : Int) = _
  rw [BitVec.toNat_or, BitVec.toNat_or, ofInt_u64 _ (by omega), ofInt_u64 _ (by omega)]
  exact IntWalk.i64_in _ (by omega)
theorem shl_byte64 (c : UInt8) (k : Nat) (hk : k ≤ 24) : (c.toNat : Int) * ((2 ^ k : Nat) : Int) = U (c.toBitVec.setWidth 32 <<< k) := by
  rw [← shl_byte]
  have hc : c.toNat < 256 := c.toNat_lt
  have h2 : 2 ^ k ≤ 2 ^ 24 := Nat.pow_le_pow_right (by omega) hk
  have h3 : c.toNat * 2 ^ k ≤ 255 * 2 ^ 24 := Nat.mul_le_mul (by omega) h2
  have e : (c.toNat : Int) % 4294967296 = c.toNat := Int.emod_eq_of_lt (by omega) (by omega)
  rw [e, ← Int.natCast_mul]
  generalize c.toNat * 2 ^ k = m at h3
  omega
theorem byte_word64 (c : UInt8) : (c.toNat : Int) = U (c.toBitVec.setWidth 32) := by
  have hc : c.toNat < 256 := c.toNat_lt
  rw [← byte_word]; omega
theorem num4_i64 (s : ByteArray) (p : Nat) (m0 : p < s.size) (m1 : p + 1 < s.size) (m2 : p + 2 < s.size) (m3 : p + 3 < s.size) :
    bits BinOp.or IntKind.i64 (bits BinOp.or IntKind.i64 (bits BinOp.or IntKind.i64 ((s[p].toNat : Int) * 16777216) ((s[p + 1].toNat : Int) * 65536)) ((s[p + 2].toNat : Int) * 256)) (s[p + 3].toNat : Int) = U (num4 (s.data.toList.drop p)) := by
  rw [show (s[p].toNat : Int) * 16777216 = _ from shl_byte64 s[p] 24 (by omega), show (s[p + 1].toNat : Int) * 65536 = _ from shl_byte64 s[p + 1] 16 (by omega), show (s[p + 2].toNat : Int) * 256 = _ from shl_byte64 s[p + 2] 8 (by omega), byte_word64 s[p + 3], or64, or64, or64]
  unfold num4
  have hg : ∀ k (h : p + k < s.size), (s.data.toList.drop p).getD k 0 = s[p + k] := fun k h => by
    rw [List.getD_eq_getElem?_getD, List.getElem?_drop, List.getElem?_eq_getElem (by rw [Array.length_toList]; exact h)]; rfl
  rw [hg 0 m0, hg 1 m1, hg 2 m2, hg 3 m3]
  rfl
theorem fB4_inj {x y : BitVec 32} (h : fB4 x = fB4 y) : x = y := by
  have h1 := num4_fB4 x []
  rw [h, num4_fB4] at h1
  exact h1.symm
theorem fB4_take (l : List UInt8) (hl : 4 ≤ l.length) : fB4 (num4 l) = l.take 4 := by
  match l, hl with
  | a :: b :: c :: d :: r, _ => exact fB4_num4 a b c d
theorem oneL_frame_iff (l : List UInt8) (n : Nat) (h8 : 8 + n ≤ l.length) (hn : (num4 l).toNat = n) (hb : n ≤ 65536) :
    oneL l = if frameL ((l.drop 8).take n) = l.take (8 + n) then some ((l.drop 8).take n) else none := by
  have hN : BitVec.ofNat 32 n = num4 l := by rw [← hn]; simp
  have ht : ((l.drop 8).take n).length = n := by rw [List.length_take, List.length_drop]; omega
  have hsplit : l.take (8 + n) = l.take 4 ++ ((l.drop 4).take 4 ++ (l.drop 8).take n) := by
    rw [List.take_add, show (8 : Nat) = 4 + 4 from rfl, List.take_add, List.append_assoc]
  unfold oneL
  rw [if_neg (by omega), if_neg (by omega), hn]
  unfold frameL
  rw [ht, hN, fB4_take l (by omega), hsplit]
  by_cases hc : CrcM.more (CrcM.sum (l.take 4)) ((l.drop 8).take n) = num4 (l.drop 4)
  · rw [if_pos hc, hc, fB4_take (l.drop 4) (by rw [List.length_drop]; omega), if_pos rfl]
  · rw [if_neg hc, if_neg]
    intro h
    apply hc
    have h1 := List.append_cancel_left h
    have h2 := List.append_cancel_right h1
    rw [← fB4_take (l.drop 4) (by rw [List.length_drop]; omega)] at h2
    exact fB4_inj h2
theorem neq_str_same (x : ByteArray) (w : World) : (binOp .neq 9 (.string x) (.string x)).run Try.prog w = .ok (.bool false) w := by
  go_simp
theorem neq_str_other (x y : ByteArray) (h : ¬ x = y) (w : World) : (binOp .neq 9 (.string x) (.string y)).run Try.prog w = .ok (.bool true) w := by
  have h2 : ¬ x.toList = y.toList := fun e => by
    rw [ByteArray.toList_eq, ByteArray.toList_eq] at e
    exact h (ByteArray.ext (Array.toList_inj.mp e))
  go_simp
theorem neq_lists {x y : ByteArray} (h : ¬ x = y) : (x.toList == y.toList) = false := by
  apply beq_eq_false_iff_ne.mpr
  intro e
  rw [ByteArray.toList_eq, ByteArray.toList_eq] at e
  exact h (ByteArray.ext (Array.toList_inj.mp e))
end Go.Proofs.Ytmjeanbbhacnaaa
