/- The walk of the law CrcSums, and the examples of chapter 5. -/
import Derived.Test.YtmdfpgamihekmaaCrcWalk
import Derived.Test.YtmdfpgamihekmaaCrcRef
import Derived.Deep.RegionHeld3
import Derived.Deep.DrawnRows
namespace Go.Proofs.Ytmdfpgamihekmaa
open Go.RowKit
attribute [local go_sem ↓] Go.wp_at_zero Go.wp_at_succ
theorem sum_nine : CrcM.sum [49, 50, 51, 52, 53, 54, 55, 56, 57] = 3421780262#32 := by decide +kernel
theorem sum_ex (w : World) : Calls Try.prog 10 #[.string ⟨#[49, 50, 51, 52, 53, 54, 55, 56, 57]⟩] w fun e w' => e = .returned (.int .u32 3421780262) ∧ Below w.heap.size w w' := by
  refine (sum_int ⟨#[49, 50, 51, 52, 53, 54, 55, 56, 57]⟩ (by decide) w).mono ?_
  rintro e w' ⟨rfl, hb⟩
  refine ⟨?_, hb⟩
  rw [sum_nine]
  unfold U; rfl
theorem sum_nil (w : World) : Calls Try.prog 10 #[.string ⟨#[]⟩] w fun e w' => e = .returned (.int .u32 0) ∧ Below w.heap.size w w' := by
  refine (sum_int ⟨#[]⟩ (by decide) w).mono ?_
  rintro e w' ⟨rfl, hb⟩
  refine ⟨?_, hb⟩
  rw [U_zero]; rfl
theorem examples_any (w : World) : Calls Try.prog 8 #[] w fun e w' => e = .returned (.bool true) ∧ Below w.heap.size w w' := by
  go_enter Try.func8, Try.ntmps8
  go_wp2_with fail
  refine (sum_ex _).mono ?_
  rintro e w1 ⟨rfl, hb1⟩
  go_wp2_with fail
  refine (sum_nil _).mono ?_
  rintro e w2 ⟨rfl, hb2⟩
  go_wp2_with fail
  go_ret
  exact ⟨rfl, hb1.trans (hb2.mono hb1.size)⟩
theorem keepS {w wc wx : World} {a : Addr} {v : Value} (h : wc.cell? a = some v ∧ Below w.heap.size w wc) (hb : Below wc.heap.size wc wx) : wx.cell? a = some v ∧ Below w.heap.size w wx :=
  ⟨(hb.cell (block_lt_of_cell h.1)).trans h.1, h.2.trans (hb.mono h.2.size)⟩
set_option maxRecDepth 100000 in
theorem sums_walk (s : ByteArray) (hs : s.size ≤ maxLen) (a : BitVec 32) (b : BitVec 8) (w : World) : Calls Try.prog 3 #[.string s, .int .u32 (U a), .int .u8 (V b)] w fun e w' => e = .returned (.bool true) ∧ Below w.heap.size w w' := by
  go_enter Try.func3, Try.ntmps3
  go_wp2_with fail
  refine (examples_any _).mono ?_
  rintro e w1 ⟨rfl, hb1⟩
  go_wp2_with fail
  refine (table_below _).mono ?_
  rintro e w2 ⟨T, rfl, hT, hb2⟩
  have hz := (zero_of_info info24).1
  have tok1 : True := trivial
  go_wp2_with (have _t := tok1; refine wpList_store_row rfl 24 _ _ rfl w2.heap.size T rfl rfl 24 zeroT (heap_alloc_last _ _) hT.info hT.zero hT.one ?_; rw [World.setRow_alloc_new]; dsimp only [Act.put]; clear tok1)
  clear hz
  have hc := hT.cell w2 b
  have hB : Below w.heap.size w (w2.alloc (.cells T 24)) := (hb1.trans (hb2.mono hb1.size)).alloc (Nat.le_trans hb1.size hb2.size) _
  have v0 := V_lo b
  have v1 := V_hi b
  go_region_held3 (fun w' => w'.cell? ⟨w2.heap.size, (V b).toNat, none⟩ = some (.int .u32 (U (CrcM.tab b))) ∧ Below w.heap.size w w') (first | assumption | exact ⟨hc, hB.drew⟩ | exact keepS (by assumption) (by assumption)) (first | (go_at_call 10; refine (sum_int s hs _).mono ?_; rintro e wx ⟨rfl, hbx⟩) | (go_at_call 11; refine (rsum_int s hs _).mono ?_; rintro e wx ⟨rfl, rfl⟩) | (go_at_call 12; refine (more_int _ s hs a rfl _).mono ?_; rintro e wx ⟨rfl, hbx⟩) | (go_at_call 13; refine (rmore_int _ s hs a rfl _).mono ?_; rintro e wx ⟨rfl, rfl⟩) | (go_at_call 14; refine (entry_any b _).mono ?_; rintro e wx ⟨rfl, rfl⟩))
  rename_i hS
  go_wp2
  go_ret
  exact ⟨rfl, hS.2⟩
end Go.Proofs.Ytmdfpgamihekmaa
