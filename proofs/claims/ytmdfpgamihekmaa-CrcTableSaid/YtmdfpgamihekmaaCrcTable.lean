/- The walk of the law CrcTable. -/
import Derived.Test.YtmdfpgamihekmaaCrcParts
namespace Go.Proofs.Ytmdfpgamihekmaa
open Go.RowKit
attribute [local go_sem ↓] Go.wp_at_zero Go.wp_at_succ
attribute [local go_sem high] unary_U
theorem tabCells {T : Array Value} (hT : IsTab T) (a b : BitVec 8) (w2 : World) :
    (w2.alloc (.cells T 24)).cell? ⟨w2.heap.size, (V (a ^^^ b)).toNat, none⟩ = some (.int .u32 (U (CrcM.tab a ^^^ CrcM.tab b))) ∧
    (w2.alloc (.cells T 24)).cell? ⟨w2.heap.size, (V a).toNat, none⟩ = some (.int .u32 (U (CrcM.tab a))) ∧
    (w2.alloc (.cells T 24)).cell? ⟨w2.heap.size, (V b).toNat, none⟩ = some (.int .u32 (U (CrcM.tab b))) ∧
    (w2.alloc (.cells T 24)).cell? ⟨w2.heap.size, 0, none⟩ = some (.int .u32 0) ∧
    (w2.alloc (.cells T 24)).cell? ⟨w2.heap.size, 128, none⟩ = some (.int .u32 3988292384) := by
  refine ⟨by rw [← CrcM.tab_xor]; exact hT.cell w2 _, hT.cell w2 a, hT.cell w2 b, ?_, ?_⟩
  · have := hT.cell w2 0#8
    rw [V_nat, show CrcM.tab 0#8 = 0#32 by decide, ← U_zero] at this; exact this
  · have := hT.cell w2 128#8
    rw [V_nat, show CrcM.tab 128#8 = CrcM.poly by decide, ← U_poly] at this; exact this
theorem keep5 {w wc wx : World} {a1 a2 a3 a4 a5 : Addr} {v1 v2 v3 v4 v5 : Value} (h : wc.cell? a1 = some v1 ∧ wc.cell? a2 = some v2 ∧ wc.cell? a3 = some v3 ∧ wc.cell? a4 = some v4 ∧ wc.cell? a5 = some v5 ∧ Below w.heap.size w wc) (hb : Below wc.heap.size wc wx) :
    wx.cell? a1 = some v1 ∧ wx.cell? a2 = some v2 ∧ wx.cell? a3 = some v3 ∧ wx.cell? a4 = some v4 ∧ wx.cell? a5 = some v5 ∧ Below w.heap.size w wx := by
  obtain ⟨h1, h2, h3, h4, h5, h6⟩ := h
  exact ⟨(hb.cell (block_lt_of_cell h1)).trans h1, (hb.cell (block_lt_of_cell h2)).trans h2, (hb.cell (block_lt_of_cell h3)).trans h3, (hb.cell (block_lt_of_cell h4)).trans h4, (hb.cell (block_lt_of_cell h5)).trans h5, h6.trans (hb.mono h6.size)⟩
set_option maxRecDepth 100000 in
theorem table_walk (s : ByteArray) (hz : s.size ≤ 140737488351232) (hs : s.size ≤ maxLen) (a b : BitVec 8) (w : World) : Calls Try.prog 7 #[.string s, .int .u8 (V a), .int .u8 (V b)] w fun e w' => e = .returned (.bool true) ∧ Below w.heap.size w w' := by
  have hs' : (s.size : Int) ≤ 9223372036854775807 := by omega
  obtain ⟨F, hF⟩ : ∃ F, F = fB 0#32 s s.size := ⟨_, rfl⟩
  have cA : ∀ w, Calls Try.prog 10 #[.string s] w fun e w' => e = .returned (.int .u32 (U (~~~ F))) ∧ Below w.heap.size w w' := fun w => by
    rw [hF, fB_all]; exact sum_int s hs w
  have HA := Lib.hid cA
  have HF := Lib.hid hF
  clear cA hF hs
  go_enter Try.func7, Try.ntmps7
  go_wp2_with fail
  refine (examples_any _).mono ?_
  rintro e w1 ⟨rfl, hb1⟩
  go_wp2_with fail
  refine (table_below _).mono ?_
  rintro e w2 ⟨T, rfl, hT, hb2⟩
  have hzz := (zero_of_info info24).1
  have tok1 : True := trivial
  go_wp2_with (have _t := tok1; refine wpList_store_row rfl 24 _ _ rfl w2.heap.size T rfl rfl 24 zeroT (heap_alloc_last _ _) hT.info hT.zero hT.one ?_; rw [World.setRow_alloc_new]; dsimp only [Act.put]; clear tok1)
  clear hzz
  go_loop [9, 10] (fun n i => ∃ k : Nat, k ≤ s.size ∧ i = .int .i64 k ∧ n = .int .u32 (U (fB 0#32 s k))) (fun _ i => s.size - (intOf i).toNat)
  case atStart => exact ⟨0, by omega, rfl, by rw [show fB 0#32 s 0 = BitVec.allOnes 32 by simp [fB, CrcM.fold]]; exact congrArg _ (by unfold U; decide)⟩
  case round =>
    obtain ⟨k, hk, rfl, rfl⟩ := hrel
    by_cases hlt : k < s.size
    · obtain ⟨j, hj⟩ : ∃ j : BitVec 8, j = (fB 0#32 s k).setWidth 8 ^^^ s[k].toBitVec := ⟨_, rfl⟩
      have hx : bits .xor .u8 (U (fB 0#32 s k) % (256 : Int)) (s[k].toNat : Int) = V j := by rw [hj]; exact xor8w _ _
      have Hj := Lib.hid hj
      clear hj
      have hcell := hT.cell w2 j
      have j0 := V_lo j
      have j1 := V_hi j
      have h8 := shr8 (fB 0#32 s k)
      have hX := xor32 (fB 0#32 s k >>> 8) (CrcM.tab j)
      go_wp2
      go_round
      case rel => exact ⟨k + 1, by omega, by go_num, by rw [fB_succ 0#32 s k hlt, Hj.out]; rfl⟩
      case measure => simp [intOf]; omega
    · have e : k = s.size := by omega
      subst e
      rw [← HF.out]
      go_wp2
      have hcs := tabCells hT a b w2
      have hB : Below w.heap.size w (w2.alloc (.cells T 24)) := (hb1.trans (hb2.mono hb1.size)).alloc (Nat.le_trans hb1.size hb2.size) _
      have Hcs := Lib.hid hcs
      clear hcs
      have a0 := V_lo a
      have a1 := V_hi a
      have b0 := V_lo b
      have b1 := V_hi b
      have c0 := V_lo (a ^^^ b)
      have c1 := V_hi (a ^^^ b)
      have x1 := xor8 a b
      have x2 := xor32 (CrcM.tab a) (CrcM.tab b)
      go_region_held3 (fun w' => w'.cell? ⟨w2.heap.size, (V (a ^^^ b)).toNat, none⟩ = some (.int .u32 (U (CrcM.tab a ^^^ CrcM.tab b))) ∧ w'.cell? ⟨w2.heap.size, (V a).toNat, none⟩ = some (.int .u32 (U (CrcM.tab a))) ∧ w'.cell? ⟨w2.heap.size, (V b).toNat, none⟩ = some (.int .u32 (U (CrcM.tab b))) ∧ w'.cell? ⟨w2.heap.size, 0, none⟩ = some (.int .u32 0) ∧ w'.cell? ⟨w2.heap.size, 128, none⟩ = some (.int .u32 3988292384) ∧ Below w.heap.size w w') (first | assumption | exact ⟨Hcs.out.1, Hcs.out.2.1, Hcs.out.2.2.1, Hcs.out.2.2.2.1, Hcs.out.2.2.2.2, hB.drew⟩ | exact keep5 (by assumption) (by assumption)) (first | (go_at_call 10; ((with_reducible refine (HA.out _).mono ?_); rintro e wx ⟨rfl, hbx⟩)))

      rename_i hS
      go_wp2
      go_ret
      exact ⟨rfl, hS.2.2.2.2.2⟩
end Go.Proofs.Ytmdfpgamihekmaa
