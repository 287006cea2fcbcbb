/- The walks of four, number. No condition. -/
import Derived.Test.YtmjeanbbhacnaaaCrcWalk
import Derived.Test.YtmjeanbbhacnaaaBytes
import Derived.Deep.QuietTactic
import Derived.BigQuiet
namespace Go.Proofs.Ytmjeanbbhacnaaa
open Go.RowKit
/-- A number's four bytes. -/
def fB4 (x : BitVec 32) : List UInt8 := [⟨(x >>> 24).setWidth 8⟩, ⟨(x >>> 16).setWidth 8⟩, ⟨(x >>> 8).setWidth 8⟩, ⟨x.setWidth 8⟩]
theorem fB4_length (x : BitVec 32) : (fB4 x).length = 4 := rfl
theorem byte_of (x : BitVec 32) (k : Nat) : U x / ((2 ^ k : Nat) : Int) % 256 = (((x >>> k).setWidth 8).toNat : Int) := by
  unfold U
  rw [BitVec.toNat_setWidth, BitVec.toNat_ushiftRight, Nat.shiftRight_eq_div_pow]
  rw [Int.natCast_emod, Int.natCast_ediv]
  rfl
theorem byte_of0 (x : BitVec 32) : U x % 256 = ((x.setWidth 8).toNat : Int) := by
  unfold U
  rw [BitVec.toNat_setWidth, Int.natCast_emod]
  rfl
theorem fB4_cells (x : BitVec 32) : (bcells (fB4 x)).toArray = #[.int .u8 (U x / 16777216 % 256), .int .u8 (U x / 65536 % 256), .int .u8 (U x / 256 % 256), .int .u8 (U x % 256)] := by
  rw [show U x / 16777216 % 256 = _ from byte_of x 24, show U x / 65536 % 256 = _ from byte_of x 16, show U x / 256 % 256 = _ from byte_of x 8, byte_of0]
  rfl
set_option maxRecDepth 100000 in
theorem four_any (x : BitVec 32) (w : World) : Calls Try.prog 61 #[.int .u32 (U x)] w fun e w' => e = .returned (.string ⟨(fB4 x).toArray⟩) ∧ Below w.heap.size w w' := by
  have hconv : (convert 51 9 (.slice (some ⟨w.heap.size, 0, none⟩) 4 4)).run Try.prog (w.alloc (.cells #[.int .u8 (U x / 16777216 % 256), .int .u8 (U x / 65536 % 256), .int .u8 (U x / 256 % 256), .int .u8 (U x % 256)] 5)) =
      .ok (.string ⟨(fB4 x).toArray⟩) (w.alloc (.cells #[.int .u8 (U x / 16777216 % 256), .int .u8 (U x / 65536 % 256), .int .u8 (U x / 256 % 256), .int .u8 (U x % 256)] 5)) := by
    rw [← fB4_cells]
    exact (run_convert_bytes_string _ 51 9 5 _ _ _ Try.underlying51 Try.underlying5 Try.underlying9).trans (run_string_row 4 (fB4 x) (heap_alloc_new w _))
  obtain ⟨X, hX⟩ : ∃ X : ByteArray, X = ⟨(fB4 x).toArray⟩ := ⟨_, rfl⟩
  rw [← hX] at hconv ⊢
  clear hX
  go_enter Try.func61, Try.ntmps61
  go_wp2_with fail
  go_ret
  exact ⟨rfl, (Below.refl _ _).alloc (Nat.le_refl _) _⟩
/-- A number out of its first four bytes. -/
def num4 (l : List UInt8) : BitVec 32 := ((l.getD 0 0).toBitVec.setWidth 32 <<< 24) ||| ((l.getD 1 0).toBitVec.setWidth 32 <<< 16) ||| ((l.getD 2 0).toBitVec.setWidth 32 <<< 8) ||| (l.getD 3 0).toBitVec.setWidth 32
theorem num4_fB4 (x : BitVec 32) (r : List UInt8) : num4 (fB4 x ++ r) = x := by
  unfold num4 fB4
  simp only [List.cons_append, List.getD_cons_zero, List.getD_cons_succ]
  apply BitVec.eq_of_getLsbD_eq
  intro i hi
  simp only [BitVec.getLsbD_or, BitVec.getLsbD_shiftLeft, BitVec.getLsbD_setWidth, BitVec.getLsbD_ushiftRight]
  by_cases h1 : i < 8
  · have a1 : i < 16 := by omega
    have a2 : i < 24 := by omega
    simp [h1, a1, a2, hi]
  · by_cases h2 : i < 16
    · have a2 : i < 24 := by omega
      have e : 8 + (i - 8) = i := by omega
      have e2 : i - 8 < 8 := by omega
      have e3 : i - 8 < 32 := by omega
      simp [h1, h2, a2, hi, e, e2, e3]
    · by_cases h3 : i < 24
      · have e : 16 + (i - 16) = i := by omega
        have e2 : i - 16 < 8 := by omega
        have e3 : i - 16 < 32 := by omega
        have e4 : ¬ i - 8 < 8 := by omega
        simp [h1, h2, h3, hi, e, e2, e3, e4]
      · have e : 24 + (i - 24) = i := by omega
        have e2 : i - 24 < 8 := by omega
        have e3 : i - 24 < 32 := by omega
        have e4 : ¬ i - 8 < 8 := by omega
        have e5 : ¬ i - 16 < 8 := by omega
        simp [h1, h2, h3, hi, e, e2, e3, e4, e5]
theorem or32 (a b : BitVec 32) : bits .or .u32 (U a) (U b) = U (a ||| b) := by
  unfold U; rw [u32_or_nat _ _ a.isLt b.isLt]; rfl
theorem shl_byte (c : UInt8) (k : Nat) : (c.toNat : Int) % 4294967296 * ((2 ^ k : Nat) : Int) % 4294967296 = U (c.toBitVec.setWidth 32 <<< k) := by
  have hc : c.toNat < 256 := c.toNat_lt
  unfold U
  rw [BitVec.toNat_shiftLeft, BitVec.toNat_setWidth, Nat.shiftLeft_eq]
  rw [Int.natCast_emod, Int.natCast_mul, Int.natCast_emod]
  rfl
theorem byte_word (c : UInt8) : (c.toNat : Int) % 4294967296 = U (c.toBitVec.setWidth 32) := by
  unfold U
  rw [BitVec.toNat_setWidth, Int.natCast_emod]
  rfl
theorem num4_int (s : ByteArray) (i0 : 0 < s.size) (i1 : 1 < s.size) (i2 : 2 < s.size) (i3 : 3 < s.size) :
    bits BinOp.or IntKind.u32 (bits BinOp.or IntKind.u32 (bits BinOp.or IntKind.u32 ((s[0].toNat : Int) % 4294967296 * 16777216 % 4294967296) ((s[1].toNat : Int) % 4294967296 * 65536 % 4294967296)) ((s[2].toNat : Int) % 4294967296 * 256 % 4294967296)) ((s[3].toNat : Int) % 4294967296) =
      U (num4 s.data.toList) := by
  rw [show (s[0].toNat : Int) % 4294967296 * 16777216 % 4294967296 = _ from shl_byte s[0] 24, show (s[1].toNat : Int) % 4294967296 * 65536 % 4294967296 = _ from shl_byte s[1] 16, show (s[2].toNat : Int) % 4294967296 * 256 % 4294967296 = _ from shl_byte s[2] 8, byte_word, or32, or32, or32]
  unfold num4
  have hg : ∀ k (h : k < s.size), s.data.toList.getD k 0 = s[k] := fun k h => by
    rw [List.getD_eq_getElem?_getD, List.getElem?_eq_getElem (by rw [Array.length_toList]; exact h)]; rfl
  rw [hg 0 i0, hg 1 i1, hg 2 i2, hg 3 i3]
set_option maxRecDepth 100000 in
theorem number_any (s : ByteArray) (h4 : 4 ≤ s.size) (w : World) : Calls Try.prog 84 #[.string s] w fun e w' => e = .returned (.int .u32 (U (num4 s.data.toList))) ∧ Below w.heap.size w w' := by
  have i0 : 0 < s.size := by omega
  have i1 : 1 < s.size := by omega
  have i2 : 2 < s.size := by omega
  have i3 : 3 < s.size := by omega
  have j0 : (0 : Int) < (s.size : Int) := by omega
  have j1 : (1 : Int) < (s.size : Int) := by omega
  have j2 : (2 : Int) < (s.size : Int) := by omega
  have j3 : (3 : Int) < (s.size : Int) := by omega
  go_enter Try.func84, Try.ntmps84
  go_wp2_with fail
  go_quiet (fail)
  go_wp2_with fail
  go_ret
  exact ⟨congrArg (fun z => Ending.returned (Value.int .u32 z)) (num4_int s i0 i1 i2 i3), rfl, rfl, rfl, Nat.le_refl _, fun _ _ => rfl⟩
end Go.Proofs.Ytmjeanbbhacnaaa
