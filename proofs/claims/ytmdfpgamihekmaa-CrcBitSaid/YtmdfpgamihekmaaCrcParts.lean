/- The walk of the law CrcParts. -/
import Derived.Test.YtmdfpgamihekmaaCrcSums
namespace Go.Proofs.Ytmdfpgamihekmaa
open Go.RowKit
attribute [local go_sem ↓] Go.wp_at_zero Go.wp_at_succ
theorem keepB {w wc wx : World} (h : Below w.heap.size w wc) (hb : Below wc.heap.size wc wx) : Below w.heap.size w wx := h.trans (hb.mono h.size)
set_option maxRecDepth 100000 in
theorem parts_walk (s : ByteArray) (hz : s.size ≤ 140737488351232) (hs : s.size ≤ maxLen) (n : Int) (h0 : 0 ≤ n) (h1 : n ≤ 65535) (w : World) : Calls Try.prog 4 #[.string s, .int .u16 n] w fun e w' => e = .returned (.bool true) ∧ Below w.heap.size w w' := by
  obtain ⟨k, hk⟩ : ∃ k : Nat, n % ((s.size : Int) + 1) = (k : Int) := ⟨(n % ((s.size : Int) + 1)).toNat, by have := Int.emod_nonneg n (b := (s.size : Int) + 1) (by omega); omega⟩
  have hk1 : (k : Int) ≤ s.size := by have := Int.emod_lt_of_pos n (b := (s.size : Int) + 1) (by omega); omega
  have Hk := Lib.hid hk
  clear hk
  have hk2 : k ≤ s.size := by omega
  have e1 : (s.extract 0 k).data.toList = s.data.toList.take k := by simp
  have e2 : (s.extract k s.size).data.toList = s.data.toList.drop k := by simp; exact List.take_of_length_le (by simp)
  obtain ⟨A, hA⟩ : ∃ A, A = CrcM.sum (s.data.toList.take k) := ⟨_, rfl⟩
  obtain ⟨C, hC⟩ : ∃ C, C = CrcM.sum s.data.toList := ⟨_, rfl⟩
  have cA : ∀ w, Calls Try.prog 10 #[.string (s.extract 0 k)] w fun e w' => e = .returned (.int .u32 (U A)) ∧ Below w.heap.size w w' := fun w => by
    have := sum_int (s.extract 0 k) (by unfold maxLen; simp; omega) w
    rw [e1, ← hA] at this; exact this
  have cB : ∀ w, Calls Try.prog 12 #[.int .u32 (U A), .string (s.extract k s.size)] w fun e w' => e = .returned (.int .u32 (U C)) ∧ Below w.heap.size w w' := fun w => by
    have := more_int (U A) (s.extract k s.size) (by unfold maxLen; simp; omega) A rfl w
    rw [e2, hA, CrcM.more_parts, List.take_append_drop, ← hA, ← hC] at this; exact this
  have cC : ∀ w, Calls Try.prog 10 #[.string s] w fun e w' => e = .returned (.int .u32 (U C)) ∧ Below w.heap.size w w' := fun w => by
    rw [hC]; exact sum_int s hs w
  have cD : ∀ w, Calls Try.prog 12 #[.int .u32 (U C), .string ⟨#[]⟩] w fun e w' => e = .returned (.int .u32 (U C)) ∧ Below w.heap.size w w' := fun w => by
    have := more_int (U C) ⟨#[]⟩ (by decide) C rfl w
    rw [CrcM.more_nil] at this; exact this
  have HA := Lib.hid cA
  have HB := Lib.hid cB
  have HC := Lib.hid cC
  have HD := Lib.hid cD
  clear cA cB cC cD hA hC e1 e2
  go_enter Try.func4, Try.ntmps4
  go_wp2_with fail
  refine (examples_any _).mono ?_
  rintro e w1 ⟨rfl, hb1⟩
  go_wp2_with fail
  rw [Hk.out]
  have hk0 : (0 : Int) ≤ (k : Int) := by omega
  go_region_held3 (fun w' => Below w.heap.size w w') (first | assumption | exact hb1.drew | exact keepB (by assumption) (by assumption)) (first | (go_at_call 10; ((with_reducible refine (HA.out _).mono ?_); rintro e wx ⟨rfl, hbx⟩)) | (go_at_call 10; ((with_reducible refine (HC.out _).mono ?_); rintro e wx ⟨rfl, hbx⟩)) | (go_at_call 12; ((with_reducible refine (HB.out _).mono ?_); rintro e wx ⟨rfl, hbx⟩)) | (go_at_call 12; ((with_reducible refine (HD.out _).mono ?_); rintro e wx ⟨rfl, hbx⟩)))
  rename_i hS
  go_wp2
  go_ret
  exact ⟨rfl, hS⟩
end Go.Proofs.Ytmdfpgamihekmaa
