/- The walks of the document's own answer to chapter 5 (package stithyref05): each comes to the sum of CrcM, the world unturned. -/
import Derived.Test.YtmjeanbbhacnaaaRows
import Derived.Test.YtmjeanbbhacnaaaCrcWords
import Derived.WalkKit
import Derived.WalkSpells
import Derived.WalkLawsBesides
import Derived.Lib.Hide
namespace Go.Proofs.Ytmjeanbbhacnaaa
open Go.RowKit
theorem unary_Ur (a : BitVec 32) : Op.unary .xor (.int .u32 (U a)) = pure (.int .u32 (U (~~~ a))) := by
  rw [← not32]; rfl
attribute [local go_sem high] unary_Ur
theorem step_int (s v : Int) (_hs : 0 ≤ s) (_hx : 0 ≤ bits .xor .u32 s v) (w : World) : Calls Try.prog 103 #[.int .u32 s, .int .u32 v] w fun e w' => e = .returned (.int .u32 (stepI s v)) ∧ w = w' := by
  go_enter Try.func103, Try.ntmps103
  go_wp2
  all_goals (go_ret; exact ⟨by unfold stepI; simp [*], rfl⟩)
theorem step_any (s v : Int) (a b : BitVec 32) (hs : s = U a) (hv : v = U b) (w : World) : Calls Try.prog 103 #[.int .u32 s, .int .u32 v] w fun e w' => e = .returned (.int .u32 (U (CrcM.rst a b))) ∧ w = w' := by
  subst hs hv
  rw [← stepI_U]
  exact step_int _ _ (U_lo a) (by rw [xor32]; exact U_lo _) w
set_option maxRecDepth 100000 in
theorem rmore_int (n : Int) (s : ByteArray) (hs : s.size ≤ maxLen) (a : BitVec 32) (hn : n = U a) (w : World) : Calls Try.prog 83 #[.int .u32 n, .string s] w fun e w' => e = .returned (.int .u32 (U (CrcM.more a s.data.toList))) ∧ w = w' := by
  subst hn
  have hs' : (s.size : Int) ≤ 9223372036854775807 := by unfold maxLen at hs; omega
  clear hs
  go_enter Try.func83, Try.ntmps83
  go_wp2
  go_loop [0, 5] (fun n i => ∃ k : Nat, k ≤ s.size ∧ i = .int .i64 k ∧ n = .int .u32 (U (fB a s k))) (fun _ i => s.size - (intOf i).toNat)
  case atStart => exact ⟨0, by omega, rfl, by simp [fB, CrcM.fold]⟩
  case round =>
    obtain ⟨k, hk, rfl, rfl⟩ := hrel
    by_cases hlt : k < s.size
    · obtain ⟨c, hc⟩ : ∃ c : BitVec 8, c = s[k].toBitVec := ⟨_, rfl⟩
      have Hc := Lib.hid hc
      clear hc
      go_wp2
      go_loop [0, 6] (fun n i => ∃ j : Nat, j ≤ 8 ∧ i = .int .i64 j ∧ n = .int .u32 (U (CrcM.rk (fB a s k) c j))) (fun _ i => 8 - (intOf i).toNat)
      case atStart => exact ⟨0, by omega, rfl, by rw [CrcM.rk_zero]⟩
      case round =>
        obtain ⟨j, hj, rfl, rfl⟩ := hrel
        rename_i hw
        clear hw
        by_cases hjt : j < 8
        · have hv := bit_of s[k] j
          rw [← Hc.out] at hv
          have Hv := Lib.hid hv
          clear hv
          go_wp2_with (go_at_call 103; refine (step_any _ _ (CrcM.rk (fB a s k) c j) (CrcM.zx c >>> j) rfl Hv.out _).mono ?_; rintro e w' ⟨rfl, rfl⟩)
          go_round
          case rel => exact ⟨j + 1, by omega, by go_num, by rw [CrcM.rk_succ]⟩
          case measure => simp [intOf]; omega
        · go_wp2
          have e8 : j = 8 := by omega
          subst e8
          exact ⟨⟨k + 1, by omega, by go_num, by rw [CrcM.rk_eight, Hc.out, ← fB_succ a s k hlt]⟩, by simp [intOf]; omega⟩
    · go_wp2
      go_ret
      have e : k = s.size := by omega
      subst e
      exact ⟨by rw [fB_all]; rfl, rfl⟩
theorem rsum_int (s : ByteArray) (hs : s.size ≤ maxLen) (w : World) : Calls Try.prog 65 #[.string s] w fun e w' => e = .returned (.int .u32 (U (CrcM.sum s.data.toList))) ∧ w = w' := by
  go_enter Try.func65, Try.ntmps65
  go_wp2_with (go_at_call 83; refine (rmore_int 0 s hs 0#32 U_zero _).mono ?_; rintro e w1 ⟨rfl, rfl⟩)
  go_ret
  exact ⟨rfl, rfl⟩
end Go.Proofs.Ytmjeanbbhacnaaa
