/- The walks of the document's own answer to chapter 7: Frame, Frames. The bound: the bytes are at most 2^40. -/
import Derived.Test.YtmjeanbbhacnaaaRecBack
import Derived.Test.YtmjeanbbhacnaaaCrcRefM
namespace Go.Proofs.Ytmjeanbbhacnaaa
open Go.RowKit
attribute [local go_sem ↓] Go.wp_at_zero Go.wp_at_succ
set_option maxRecDepth 100000 in
theorem rfour_any (x : BitVec 32) (w : World) : Calls Try.prog 64 #[.int .u32 (U x)] w fun e w' => e = .returned (.string ⟨(fB4 x).toArray⟩) ∧ Below w.heap.size w w' := by
  have hconv : (convert 51 9 (.slice (some ⟨w.heap.size, 0, none⟩) 4 4)).run Try.prog (w.alloc (.cells #[.int .u8 (U x / 16777216 % 256), .int .u8 (U x / 65536 % 256), .int .u8 (U x / 256 % 256), .int .u8 (U x % 256)] 5)) =
      .ok (.string ⟨(fB4 x).toArray⟩) (w.alloc (.cells #[.int .u8 (U x / 16777216 % 256), .int .u8 (U x / 65536 % 256), .int .u8 (U x / 256 % 256), .int .u8 (U x % 256)] 5)) := by
    rw [← fB4_cells]
    exact (run_convert_bytes_string _ 51 9 5 _ _ _ Try.underlying51 Try.underlying5 Try.underlying9).trans (run_string_row 4 (fB4 x) (heap_alloc_new w _))
  obtain ⟨X, hX⟩ : ∃ X : ByteArray, X = ⟨(fB4 x).toArray⟩ := ⟨_, rfl⟩
  rw [← hX] at hconv ⊢
  clear hX
  go_enter Try.func64, Try.ntmps64
  go_wp2_with fail
  go_ret
  exact ⟨rfl, (Below.refl _ _).alloc (Nat.le_refl _) _⟩
set_option maxRecDepth 100000 in
theorem rframe_any (s : ByteArray) (hs : s.size ≤ 65536) (w : World) : Calls Try.prog 34 #[.string s] w fun e w' => e = .returned (.tuple #[.string ⟨(frameL s.data.toList).toArray⟩, .bool true]) ∧ Below w.heap.size w w' := by
  obtain ⟨L, hL⟩ : ∃ L : ByteArray, L = ⟨(fB4 (BitVec.ofNat 32 s.size)).toArray⟩ := ⟨_, rfl⟩
  have hf : ∀ w, Calls Try.prog 64 #[.int .u32 (s.size : Int)] w fun e w' => e = .returned (.string L) ∧ Below w.heap.size w w' := fun w => by
    rw [U_small s.size (by omega), hL]; exact rfour_any _ w
  have hLl : L.data.toList = fB4 (BitVec.ofNat 32 s.size) := by rw [hL]
  have hL4 : L.size = 4 := by rw [← list_size, hLl]; rfl
  obtain ⟨Z, hZ⟩ : ∃ Z, L ++ s = Z := ⟨_, rfl⟩
  have hZs : Z.size = 4 + s.size := by rw [← hZ, ByteArray.size_append, hL4]
  obtain ⟨y, hy⟩ : ∃ y, y = CrcM.sum Z.data.toList := ⟨_, rfl⟩
  have hsum : ∀ w, Calls Try.prog 65 #[.string Z] w fun e w' => e = .returned (.int .u32 (U y)) ∧ w = w' := fun w => by
    rw [hy]; exact rsum_int Z (by unfold maxLen; omega) w
  obtain ⟨Y, hY⟩ : ∃ Y : ByteArray, Y = ⟨(fB4 y).toArray⟩ := ⟨_, rfl⟩
  have hf2 : ∀ w, Calls Try.prog 64 #[.int .u32 (U y)] w fun e w' => e = .returned (.string Y) ∧ Below w.heap.size w w' := fun w => by rw [hY]; exact rfour_any _ w
  have hall : L ++ Y ++ s = ⟨(frameL s.data.toList).toArray⟩ := by
    have hlen : s.data.toList.length = s.size := by rw [Array.length_toList]; rfl
    apply ByteArray.ext
    have e1 : y = CrcM.more (CrcM.sum (fB4 (BitVec.ofNat 32 s.size))) s.data.toList := by
      rw [hy, CrcM.more_parts, ← hLl, ← hZ]; simp
    simp [hL, hY, e1, frameL, hlen]
  rw [← hall]
  have hLs : (L.size : Int) ≤ 4 := by omega
  have hYs : (Y.size : Int) ≤ 4 := by
    have : Y.size = 4 := by rw [hY]; show (fB4 _).toArray.size = 4; rw [List.size_toArray, fB4_length]
    omega
  have hsI : (s.size : Int) ≤ 65536 := by omega
  have hLY : ((L ++ Y).size : Int) ≤ 8 := by rw [ByteArray.size_append]; omega
  have Hf := Lib.hid (And.intro hf (And.intro hsum hf2))
  clear hf hsum hf2 hall hy hY hL hLl hL4 hZs hs
  go_enter Try.func34, Try.ntmps34
  go_wp2_with fail
  refine (Hf.out.1 _).mono ?_
  rintro e w1 ⟨rfl, hb1⟩
  go_wp2_with fail
  refine (Hf.out.2.1 _).mono ?_
  rintro e w2 ⟨rfl, rfl⟩
  go_wp2_with fail
  refine (Hf.out.2.2 _).mono ?_
  rintro e w4 ⟨rfl, hb4⟩
  go_wp2_with fail
  go_ret2
  exact ⟨rfl, hb1.trans (hb4.mono hb1.size)⟩
set_option maxRecDepth 100000 in
theorem rframe_long (s : ByteArray) (hs : (65536 : Int) < s.size) (w : World) : Calls Try.prog 34 #[.string s] w fun e w' => e = .returned (.tuple #[.string ⟨#[]⟩, .bool false]) ∧ w = w' := by
  go_enter Try.func34, Try.ntmps34
  go_wp2_with fail
  go_ret2
  exact ⟨rfl, rfl⟩
end Go.Proofs.Ytmjeanbbhacnaaa
