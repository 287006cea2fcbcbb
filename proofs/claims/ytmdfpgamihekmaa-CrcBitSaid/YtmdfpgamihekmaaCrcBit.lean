/- The walk of the law CrcBit. -/
import Derived.Test.YtmdfpgamihekmaaCrcParts
import Derived.Test.YtmdfpgamihekmaaMathBit
import Derived.Test.YtmdfpgamihekmaaBytes
import Derived.Deep.DeepCutAuto
namespace Go.Proofs.Ytmdfpgamihekmaa
open Go.RowKit
attribute [local go_sem ↓] Go.wp_at_zero Go.wp_at_succ
theorem pat_val (y : BitVec 32) (j : Nat) : U y / (2 ^ (8 * j) : Int) % (256 : Int) = ((CrcM.pat y j).toNat : Int) := by
  unfold U CrcM.pat
  show _ = (((y >>> (8 * j)).setWidth 8).toNat : Int)
  rw [BitVec.toNat_setWidth, BitVec.toNat_ushiftRight, Nat.shiftRight_eq_div_pow]
  simp
theorem pat_zero (c : UInt8) : ((c.toNat : Int) == 0) = (c == 0) := by
  rw [Bool.eq_iff_iff, beq_iff_eq, beq_iff_eq]
  constructor
  · intro h; exact UInt8.toNat_inj.1 (by simpa using h)
  · intro h; rw [h]; rfl
theorem one_more (s : ByteArray) : ((⟨#[115]⟩ : ByteArray) ++ s).size = s.size + 1 := by rw [ByteArray.size_append, Nat.add_comm]; rfl
theorem fl_size {wr : World} {g cap k j : Nat} {t : TypeId} {q : ByteArray} {y : BitVec 32} (_h : k + j ≤ q.size) (_hr : BRow wr g cap t (CrcM.fl q.data.toList y k j)) : (CrcM.fl q.data.toList y k j).length = q.size := by rw [CrcM.fl_length]; simp
set_option maxRecDepth 100000 in
theorem bit_walk (s : ByteArray) (hz : s.size ≤ 140737488351232) (n : Int) (h0 : 0 ≤ n) (h1 : n ≤ 65535) (y : BitVec 32) (w : World) : Calls Try.prog 5 #[.string s, .int .u16 n, .int .u32 (U y)] w fun e w' => e = .returned (.bool true) ∧ Below w.heap.size w w' := by
  go_enter Try.func5, Try.ntmps5
  go_wp2_with fail
  refine (examples_any _).mono ?_
  rintro e w1 ⟨rfl, hb1⟩
  go_upto_region 4 with fail
  go_cut [0] (fun v wx => ∃ q : ByteArray, v = .string q ∧ 1 ≤ q.size ∧ q.size ≤ 200 ∧ wx = w1)
  case first =>
    go_wp2_with fail
    all_goals go_meet
    · exact ⟨_, rfl, by rw [one_more]; omega, by rw [one_more]; simp; omega, rfl⟩
    · exact ⟨_, rfl, by rw [one_more]; omega, by rw [one_more]; omega, rfl⟩
  case rest =>
    obtain ⟨q, rfl, hq1, hq2, rfl⟩ := hcut
    obtain ⟨cap, W2, hrun, hrow, hb2, hlt2⟩ := run_bytes_row (P := Try.prog) wc 9 32 5 q Try.underlying9 Try.underlying32 Try.underlying5
    obtain ⟨k, hk⟩ : ∃ k : Nat, n % (q.size : Int) = (k : Int) := ⟨(n % (q.size : Int)).toNat, by have := Int.emod_nonneg n (b := (q.size : Int)) (by omega); omega⟩
    have hk1 : (k : Int) < q.size := by have := Int.emod_lt_of_pos n (b := (q.size : Int)) (by omega); omega
    have Hk := Lib.hid hk
    clear hk
    go_wp2_with fail
    rw [Hk.out]
    clear hrun
    have hB : Below w.heap.size w W2 := keepB hb1 hb2
    go_loopw [10, 11] (fun sv i wr => ∃ j : Nat, j ≤ 4 ∧ k + j ≤ q.size ∧ i = .int .i64 j ∧ sv = .bool (CrcM.sm y j) ∧ BRow wr wc.heap.size cap 5 (CrcM.fl q.data.toList y k j) ∧ Below w.heap.size w wr) (fun _ i _ => 4 - (intOf i).toNat)
    case atStart => exact ⟨0, by omega, by omega, rfl, rfl, hrow, hB⟩
    case round =>
      obtain ⟨j, hj, hkj, rfl, rfl, hr, hBr⟩ := hrel
      clear hrow hB
      have Hr := Lib.hid hr
      by_cases h4 : j < 4
      · by_cases hkl : k + j < q.size
        · have hl : (CrcM.fl q.data.toList y k j).length = q.size := by rw [CrcM.fl_length]; simp
          have hcell := hr.cell (k + j) (by rw [hl]; exact hkl)
          have hcap : q.size ≤ cap := by obtain ⟨_, _, _, _, _, h, _⟩ := hr; rw [hl] at h; exact h
          have hfro := hr.free (k + j) (by omega)
          obtain ⟨c, hc⟩ : ∃ c, c = (CrcM.fl q.data.toList y k j).getD (k + j) 0 := ⟨_, rfl⟩
          rw [← hc] at hcell
          have Hc := Lib.hid hc
          clear hc hl hr
          have t1 : ((k : Int) + (j : Int)) < q.size := by omega
          have hxx : bits .xor .u8 (c.toNat : Int) ((CrcM.pat y j).toNat : Int) = ((c ^^^ CrcM.pat y j).toNat : Int) := by rw [V_byte, V_byte, V_byte]; exact xor8 _ _
          have Hx := Lib.hid hxx
          clear hxx
          have hset := Hr.out.set (k + j) (c ^^^ CrcM.pat y j)
          rw [show (CrcM.fl q.data.toList y k j).set (k + j) (c ^^^ CrcM.pat y j) = CrcM.fl q.data.toList y k (j + 1) by rw [CrcM.fl, ← Hc.out]] at hset
          have Hset := Lib.hid hset
          clear hset
          cases hsm : CrcM.sm y j
          · have Hsm := Lib.hid hsm
            clear hsm
            go_wp2_with fail
            refine ⟨⟨j + 1, by omega, by omega, by go_num, ?_, ?_, ?_⟩, by simp [intOf]; omega⟩
            · rw [CrcM.sm_succ, Hsm.out]; rfl
            · rw [pat_val, Hx.out]; exact Hset.out
            · exact hBr.setCell (p := ⟨wc.heap.size, k + j, none⟩) hb1.size _
          · have Hsm := Lib.hid hsm
            clear hsm
            go_wp2_with fail
            refine ⟨⟨j + 1, by omega, by omega, by go_num, ?_, ?_, ?_⟩, by simp [intOf]; omega⟩
            · rw [pat_val, CrcM.sm_succ, Hsm.out, pat_zero]; rfl
            · rw [pat_val, Hx.out]; exact Hset.out
            · exact hBr.setCell (p := ⟨wc.heap.size, k + j, none⟩) hb1.size _
        · have t1 : ¬ ((k : Int) + (j : Int)) < q.size := by omega
          have hlen := fl_size hkj hr
          have ee := CrcM.fl_sum q.data.toList y k j hj (by simpa using hkj)
          obtain ⟨bs, hbs⟩ : ∃ bs, bs = CrcM.fl q.data.toList y k j := ⟨_, rfl⟩
          obtain ⟨A, hA⟩ : ∃ A, A = CrcM.sum bs := ⟨_, rfl⟩
          obtain ⟨B, hB⟩ : ∃ B, B = CrcM.sum q.data.toList := ⟨_, rfl⟩
          obtain ⟨X, hX⟩ : ∃ X : ByteArray, X = ⟨bs.toArray⟩ := ⟨_, rfl⟩
          rw [← hbs] at hlen hr ee
          have hrun := hr.string (P := Try.prog) (src := 32) (dst := 9) cap Try.underlying32 Try.underlying5 Try.underlying9
          rw [hlen, ← hX] at hrun
          rw [← hA, ← hB, ← U_eq] at ee
          have cA := sum_int X (by rw [hX]; show bs.toArray.size ≤ maxLen; rw [List.size_toArray, hlen]; unfold maxLen; omega)
          rw [show X.data.toList = bs by rw [hX], ← hA] at cA
          have cB := sum_int q (by unfold maxLen; omega)
          rw [← hB] at cB
          have HA := Lib.hid cA
          have HB := Lib.hid cB
          clear cA cB hA hB hX hbs hlen hr Hr
          go_wp2_with (first | (go_at_call 10; ((with_reducible refine (HA.out _).mono ?_); rintro e wa ⟨rfl, hba⟩)) | (go_at_call 10; ((with_reducible refine (HB.out _).mono ?_); rintro e wb ⟨rfl, hbb⟩)))
          go_ret
          exact ⟨rfl, keepB (keepB hBr hba) hbb⟩
      · have hlen := fl_size hkj hr
        have ee := CrcM.fl_sum q.data.toList y k j hj (by simpa using hkj)
        obtain ⟨bs, hbs⟩ : ∃ bs, bs = CrcM.fl q.data.toList y k j := ⟨_, rfl⟩
        obtain ⟨A, hA⟩ : ∃ A, A = CrcM.sum bs := ⟨_, rfl⟩
        obtain ⟨B, hB⟩ : ∃ B, B = CrcM.sum q.data.toList := ⟨_, rfl⟩
        obtain ⟨X, hX⟩ : ∃ X : ByteArray, X = ⟨bs.toArray⟩ := ⟨_, rfl⟩
        rw [← hbs] at hlen hr ee
        have hrun := hr.string (P := Try.prog) (src := 32) (dst := 9) cap Try.underlying32 Try.underlying5 Try.underlying9
        rw [hlen, ← hX] at hrun
        rw [← hA, ← hB, ← U_eq] at ee
        have cA := sum_int X (by rw [hX]; show bs.toArray.size ≤ maxLen; rw [List.size_toArray, hlen]; unfold maxLen; omega)
        rw [show X.data.toList = bs by rw [hX], ← hA] at cA
        have cB := sum_int q (by unfold maxLen; omega)
        rw [← hB] at cB
        have HA := Lib.hid cA
        have HB := Lib.hid cB
        clear cA cB hA hB hX hbs hlen hr Hr
        go_wp2_with (first | (go_at_call 10; ((with_reducible refine (HA.out _).mono ?_); rintro e wa ⟨rfl, hba⟩)) | (go_at_call 10; ((with_reducible refine (HB.out _).mono ?_); rintro e wb ⟨rfl, hbb⟩)))
        go_ret
        exact ⟨rfl, keepB (keepB hBr hba) hbb⟩
end Go.Proofs.Ytmdfpgamihekmaa
