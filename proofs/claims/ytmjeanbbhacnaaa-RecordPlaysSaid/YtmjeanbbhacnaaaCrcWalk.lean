/- The walks of crc.Table, crc.More and crc.Sum: each comes to the sum of CrcM, and only new blocks are laid. No condition but that a text is no longer than Go lets one be. -/
import Derived.Test.YtmjeanbbhacnaaaRows
import Derived.Test.YtmjeanbbhacnaaaCrcWords
import Derived.WalkKit
import Derived.WalkSpells
import Derived.WalkLawsBesides
import Derived.Deep.WholeRow
import Derived.Lib.Hide
namespace Go.Proofs.Ytmjeanbbhacnaaa
open Go.RowKit
theorem unary_U (a : BitVec 32) : Op.unary .xor (.int .u32 (U a)) = pure (.int .u32 (U (~~~ a))) := by
  rw [← not32]; rfl
attribute [local go_sem high] unary_U
theorem info24 : (Try.prog.info? 103).map (fun i => (i.zero, i.size)) = some (some (.agg zeroT), 256) := by kernel_rfl
set_option maxRecDepth 100000 in
theorem table_any (w : World) : Calls Try.prog 82 #[] w fun e w' => e = .returned (.agg (rowT 256)) ∧ w' = w.alloc (.cells (rowT 256) 103) := by
  obtain ⟨hz, hi⟩ := zero_of_info info24
  go_enter Try.func82, Try.ntmps82
  go_wp2
  go_loopw [3] (fun i wr => ∃ k : Nat, k ≤ 256 ∧ i = .int .i64 k ∧ wr = w.alloc (.cells (rowT k) 103)) (fun i _ => 256 - (intOf i).toNat)
  case atStart => exact ⟨0, by omega, rfl, by rw [rowT_zero]⟩
  case round =>
    obtain ⟨k, hk, rfl, rfl⟩ := hrel
    by_cases hlt : k < 256
    · have hcell : (w.alloc (.cells (rowT k) 103)).cell? ⟨w.heap.size, k, none⟩ = some (.int .u32 0) := by
        rw [World.cell?_alloc_at _ _ _ _ rfl, rowT_get k k hlt]; simp
      have hfr : (w.alloc (.cells (rowT k) 103)).frozen? ⟨w.heap.size, k, none⟩ = false := World.frozen?_alloc_at _ _ _ _ (by simp)
      go_wp2
      go_loop [2, 8] (fun n i => ∃ j : Nat, j ≤ 8 ∧ i = .int .i64 j ∧ n = .int .u32 (stsI (BitVec.ofNat 8 k) j)) (fun _ i => 8 - (intOf i).toNat)
      case atStart => exact ⟨0, by omega, rfl, by rw [stsI_zero]; rw [zeroT_idx k hlt]⟩
      case round =>
        obtain ⟨j, hj, rfl, rfl⟩ := hrel
        rename_i hw
        clear hw
        by_cases hjt : j < 8
        · go_wp2
          go_round
          case rel => exact ⟨j + 1, by omega, by go_num, by rw [stsI_step]⟩
          case measure => simp [intOf]; omega
        · go_wp2
          have e8 : j = 8 := by omega
          subst e8
          refine ⟨⟨k + 1, by omega, by go_num, ?_⟩, by simp [intOf]; omega⟩
          rw [← rowT_succ k hlt]; rfl
    · have e : k = 256 := by omega
      subst e
      have hg := heap_alloc_last w (.cells (rowT 256) 103)
      have hsz : (Try.prog.info? 103).map (·.size) = some (rowT 256).size := by rw [rowT_size]; exact hi
      have h1 : (rowT 256).all (·.oneCell') = true := by simp [rowT, Value.oneCell']
      have Hg := Lib.hid hg
      have Hs := Lib.hid hsz
      have H1 := Lib.hid h1
      clear hz hi hg hsz h1
      go_wp2_with (first | (refine wpList_load_row rfl 103 _ rfl w.heap.size rfl 103 (rowT 256) (0, 0) _ Hg.out Try.underlying103 rfl Hs.out ?_) | (refine wpList_store_row rfl 103 _ _ rfl w.heap.size (rowT 256) rfl rfl 103 (rowT 256) Hg.out Hs.out rfl H1.out ?_))
      rw [World.setRow_alloc_new]
      exact bodyPost_ret (v := .agg (rowT 256)) (results_cell_row rfl _ _ w.heap.size 103 (rowT 256) (0, 0) _ rfl Hg.out Try.underlying103 rfl Hs.out) rfl ⟨rfl, rfl⟩
theorem table_below (w : World) : Calls Try.prog 82 #[] w fun e w' => ∃ T, e = .returned (.agg T) ∧ IsTab T ∧ Below w.heap.size w w' :=
  (table_any w).mono fun _ _ ⟨he, hw⟩ => ⟨_, he, rowT_tab, hw ▸ (Below.refl _ _).alloc (Nat.le_refl _) _⟩
theorem IsTab.info {T : Array Value} (h : IsTab T) : (Try.prog.info? 103).map (·.size) = some T.size := by rw [h.size]; exact (zero_of_info info24).2
theorem IsTab.zero {T : Array Value} (h : IsTab T) : zeroT.size = T.size := by rw [h.size]; exact zeroT_size
theorem IsTab.cell {T : Array Value} (h : IsTab T) (w : World) (b : BitVec 8) : (w.alloc (.cells T 103)).cell? ⟨w.heap.size, (V b).toNat, none⟩ = some (.int .u32 (U (CrcM.tab b))) := by
  rw [World.cell?_alloc_at _ _ _ _ rfl]; rw [V_nat]; exact h.get b
set_option maxRecDepth 100000 in
theorem more_int (n : Int) (s : ByteArray) (hs : s.size ≤ maxLen) (a : BitVec 32) (hn : n = U a) (w : World) : Calls Try.prog 62 #[.int .u32 n, .string s] w fun e w' => e = .returned (.int .u32 (U (CrcM.more a s.data.toList))) ∧ Below w.heap.size w w' := by
  subst hn
  unfold maxLen at hs
  have b1 := U_lo a
  have b2 := U_hi a
  have hz := (zero_of_info info24).1
  go_enter Try.func62, Try.ntmps62
  go_wp2_with fail
  refine (table_below _).mono ?_
  rintro e w1 ⟨T, rfl, hT, hb1⟩
  have tok1 : True := trivial
  go_wp2_with (have _t := tok1; refine wpList_store_row rfl 103 _ _ rfl w1.heap.size T rfl rfl 103 zeroT (heap_alloc_last _ _) hT.info hT.zero hT.one ?_; rw [World.setRow_alloc_new]; dsimp only [Act.put]; clear tok1)
  clear hz
  go_loop [0, 12] (fun n i => ∃ k : Nat, k ≤ s.size ∧ i = .int .i64 k ∧ n = .int .u32 (U (fB a s k))) (fun _ i => s.size - (intOf i).toNat)
  case atStart => exact ⟨0, by omega, rfl, by simp [fB, CrcM.fold]⟩
  case round =>
    obtain ⟨k, hk, rfl, rfl⟩ := hrel
    by_cases hlt : k < s.size
    · obtain ⟨j, hj⟩ : ∃ j : BitVec 8, j = (fB a s k).setWidth 8 ^^^ s[k].toBitVec := ⟨_, rfl⟩
      have hx : bits .xor .u8 (U (fB a s k) % (256 : Int)) (s[k].toNat : Int) = V j := by rw [hj]; exact xor8w _ _
      have Hj := Lib.hid hj
      clear hj
      have hcell := hT.cell w1 j
      have j0 := V_lo j
      have j1 := V_hi j
      have h8 := shr8 (fB a s k)
      have hX := xor32 (fB a s k >>> 8) (CrcM.tab j)
      go_wp2
      go_round
      case rel => exact ⟨k + 1, by omega, by go_num, by rw [fB_succ a s k hlt, Hj.out]; rfl⟩
      case measure => simp [intOf]; omega
    · go_wp2
      go_ret
      have e : k = s.size := by omega
      subst e
      exact ⟨by rw [fB_all]; rfl, hb1.trans ((Below.refl _ _).alloc hb1.size _)⟩
theorem sum_int (s : ByteArray) (hs : s.size ≤ maxLen) (w : World) : Calls Try.prog 63 #[.string s] w fun e w' => e = .returned (.int .u32 (U (CrcM.sum s.data.toList))) ∧ Below w.heap.size w w' := by
  go_enter Try.func63, Try.ntmps63
  go_wp2_with (go_at_call 62; refine (more_int 0 s hs 0#32 U_zero _).mono ?_; rintro e w1 ⟨rfl, hb1⟩)
  go_ret
  exact ⟨rfl, hb1⟩
end Go.Proofs.Ytmjeanbbhacnaaa
