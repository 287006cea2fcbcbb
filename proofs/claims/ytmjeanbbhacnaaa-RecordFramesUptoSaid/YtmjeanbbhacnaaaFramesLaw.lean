/- The walk of the law RecordFrames, where what comes in is small. -/
import Derived.Test.YtmjeanbbhacnaaaRefFrames
import Derived.Test.YtmjeanbbhacnaaaRecMends
namespace Go.Proofs.Ytmjeanbbhacnaaa
open Go.RowKit
attribute [local go_sem ↓] Go.wp_at_zero Go.wp_at_succ
theorem frame_pair (s : ByteArray) (hs : s.size ≤ 1099511627776) : ∃ F b, (∀ w, Calls Try.prog 33 #[.string s] w fun e w' => e = .returned (.tuple #[.string F, .bool b]) ∧ Below w.heap.size w w') ∧
    (∀ w, Calls Try.prog 34 #[.string s] w fun e w' => e = .returned (.tuple #[.string F, .bool b]) ∧ Below w.heap.size w w') ∧ F.size ≤ 65544 := by
  by_cases h : s.size ≤ 65536
  · refine ⟨_, _, fun w => frame_any s h w, fun w => rframe_any s h w, ?_⟩
    show (frameL s.data.toList).toArray.size ≤ 65544
    have hlen : s.data.toList.length = s.size := by rw [Array.length_toList]; rfl
    rw [List.size_toArray, frameL_length]; omega
  · refine ⟨⟨#[]⟩, false, fun w => (frame_long s (by omega) w).mono ?_, fun w => (rframe_long s (by omega) w).mono ?_, by show (#[] : Array UInt8).size ≤ 65544; decide⟩
    · rintro e w' ⟨rfl, rfl⟩; exact ⟨rfl, Below.refl _ _⟩
    · rintro e w' ⟨rfl, rfl⟩; exact ⟨rfl, Below.refl _ _⟩
theorem framesF_len : ∀ f l, (framesF f l).length ≤ f
  | 0, _ => Nat.le_refl _
  | f + 1, l => by
    show (match oneL l with | none => [] | some t => t :: framesF f (l.drop (t.length + 8))).length ≤ f + 1
    cases oneL l with
    | none => exact Nat.zero_le _
    | some t => have := framesF_len f (l.drop (t.length + 8)); simp only [List.length_cons]; omega
set_option maxRecDepth 100000 in
set_option maxHeartbeats 1600000 in
theorem framesT_walk (s : ByteArray) (own : Bool) (v : Value) (ss : List ByteArray) (at' : Int) (y : Int) (w : World) (hv : StrArg w v ss) (hs : s.size ≤ 1048576) (hss : ∀ t ∈ ss, t.size ≤ 1048576) (hat : -9223372036854775808 ≤ at' ∧ at' ≤ 9223372036854775807) (hy : 0 ≤ y ∧ y ≤ 255) :
    Calls Try.prog 5 #[.string s, .bool own, v, .int .i64 at', .int .u8 y] w fun e w' => e = .returned (.bool true) ∧ Below w.heap.size w w' := by
  obtain ⟨hat0, hat1⟩ := hat
  obtain ⟨hy0, hy1⟩ := hy
  have hvb := fun w' (hb : Below w.heap.size w w') => hv.below hb
  obtain ⟨a, len, cap, rfl, k2, k3, k4, k5⟩ := hv
  have H := Lib.hid (@examples07)
  have HV := Lib.hid (And.intro hvb (And.intro k2 hss))
  obtain ⟨F, b, hF1, hF2, hF3⟩ := frame_pair s (by omega)
  have HF := Lib.hid (And.intro hF1 (And.intro hF2 hF3))
  have hsI : (s.size : Int) ≤ 1048576 := by omega
  clear hvb k2 k3 k5 hss hF1 hF2 hF3 hs
  go_enter Try.func5, Try.ntmps5
  go_wp2_with fail
  refine (H.out w).mono ?_
  rintro e w1 ⟨rfl, hb1⟩
  go_wp2_with fail
  refine (HF.out.1 _).mono ?_
  rintro e w2 ⟨rfl, hb2⟩
  go_wp2_with fail
  refine (HF.out.2.1 _).mono ?_
  rintro e w3 ⟨rfl, hb3⟩
  have hbw := (hb1.trans (hb2.mono hb1.size)).trans (hb3.mono (Nat.le_trans hb1.size hb2.size))
  have HB := Lib.hid hbw
  clear hb1 hb2 hb3 hbw
  go_upto_region 6 with fail
  iterate 7 go_step
  go_cut [0] (fun v wx => ∃ S : ByteArray, v = .string S ∧ (S.size : Int) ≤ 1099511627776 ∧ Below w.heap.size w wx)
  case first =>
    cases own with
    | false =>
      go_wp2_with fail
      go_meet
      exact ⟨s, rfl, by omega, HB.out⟩
    | true =>
      go_wp2_with fail
      go_loopw [16, 17] (fun av i wr => ∃ (A : ByteArray) (j : Nat), av = .string A ∧ i = .int .i64 j ∧ (j : Int) ≤ 10 ∧ (A.size : Int) ≤ 65544 * (j : Int) ∧ Below w.heap.size w wr) (fun _ i _ => 10 - (intOf i).toNat)
      case atStart => exact ⟨⟨#[]⟩, 0, rfl, rfl, by omega, by decide, HB.out⟩
      case round =>
        obtain ⟨A, j, rfl, rfl, hj, hA, hbr⟩ := hrel
        have hj0 : (0 : Int) ≤ (j : Int) := by omega
        by_cases hlt : (j : Int) < (len : Int) ∧ (j : Int) < 10
        · obtain ⟨hl1, hl2⟩ := hlt
          obtain ⟨x1, len1, cap1, e1, g1, _, _, g2⟩ := HV.out.1 wr hbr
          have hk := HV.out.2.2
          simp only [Value.slice.injEq] at e1
          obtain ⟨rfl, rfl, rfl⟩ := e1
          obtain ⟨b1, rfl, hbl, c1⟩ := g2 j (by omega)
          obtain ⟨x, hx⟩ : ∃ x, x = ss[j]'(by omega) := ⟨_, rfl⟩
          have hxs : x.size ≤ 1048576 := by rw [hx]; exact hk _ (List.getElem_mem _)
          rw [← hx] at c1
          obtain ⟨G, g, _, hG2, hG3⟩ := frame_pair x (by omega)
          have HG := Lib.hid (And.intro hG2 (And.intro hG3 hbr))
          have hAG : ((A ++ G).size : Int) ≤ 65544 * (j : Int) + 65544 := by rw [ByteArray.size_append]; omega
          have HAG := Lib.hid hAG
          clear hx g1 g2 hk hbl hxs hG2 hG3 hbr hAG
          have hAs : (A.size : Int) ≤ 655440 := by omega
          have hGs : (G.size : Int) ≤ 65544 := by have := HG.out.2.1; omega
          go_wp2_with fail
          refine (HG.out.1 _).mono ?_
          rintro e w4 ⟨rfl, hb4⟩
          go_wp2_with fail
          exact ⟨⟨A ++ G, j + 1, rfl, by go_num, by omega, by have := HAG.out; omega, HG.out.2.2.trans (hb4.mono HG.out.2.2.size)⟩, by simp [intOf]; omega⟩
        · have hA2 : (A.size : Int) ≤ 655440 := by omega
          obtain ⟨X, hX⟩ : ∃ X, X = A ++ s := ⟨_, rfl⟩
          have hXs : X.size = A.size + s.size := by rw [hX, ByteArray.size_append]
          obtain ⟨bc, W4, hconv, hRow, hb4, hlt4⟩ := run_bytes_row (P := Try.prog) wr 9 51 5 X Try.underlying9 Try.underlying51 Try.underlying5
          rw [hX] at hconv
          have hbw4 : Below w.heap.size w W4 := hbr.trans (hb4.mono hbr.size)
          obtain ⟨M, hM, hM1⟩ : ∃ M : Nat, (if at' < 0 then -(at' + 1) else at') = (M : Int) ∧ (M : Int) ≤ 9223372036854775807 := ⟨(if at' < 0 then -(at' + 1) else at').toNat, by split <;> omega, by split <;> omega⟩
          by_cases hX0 : A.size + s.size = 0
          · have hX1 : (A.size : Int) + (s.size : Int) = 0 := by omega
            have hstr : (convert 51 9 (.slice (some ⟨wr.heap.size, 0, none⟩) 0 bc)).run Try.prog W4 = .ok (.string X) W4 := by
              have h2 := hRow.string (P := Try.prog) bc Try.underlying51 Try.underlying5 Try.underlying9
              rw [list_size, hXs, hX0] at h2
              exact h2
            have HR := Lib.hid (And.intro hbw4 hXs)
            clear hRow hb4 hlt4 hbr hbw4 hX hXs
            by_cases hneg : at' < 0
            · go_wp2_with fail
              all_goals go_meet
              all_goals exact ⟨X, rfl, by have := HR.out.2; omega, HR.out.1⟩
            · go_wp2_with fail
              all_goals go_meet
              all_goals exact ⟨X, rfl, by have := HR.out.2; omega, HR.out.1⟩
          · have hX1 : (0 : Int) < (A.size : Int) + (s.size : Int) := by omega
            obtain ⟨q, hq⟩ : ∃ q, q = M % (A.size + s.size) := ⟨_, rfl⟩
            have hqn : q < A.size + s.size := by rw [hq]; exact Nat.mod_lt _ (by omega)
            have hqI : (q : Int) < (A.size : Int) + (s.size : Int) := by omega
            have hq0 : (0 : Int) ≤ (q : Int) := by omega
            have hqe : (M : Int) % ((A.size : Int) + (s.size : Int)) = (q : Int) := by rw [hq]; push_cast; rfl
            have hqt : Int.tmod (M : Int) ((A.size : Int) + (s.size : Int)) = (q : Int) := by rw [Int.tmod_eq_emod_of_nonneg (by omega)]; exact hqe
            obtain ⟨c, hc⟩ : ∃ c : UInt8, X.data.toList[q]? = some c := ⟨_, List.getElem?_eq_getElem (by rw [list_size]; omega)⟩
            obtain ⟨Y, hY⟩ : ∃ Y : UInt8, y = (Y.toNat : Int) := ⟨UInt8.ofNat y.toNat, by
              have h : (UInt8.ofNat y.toNat).toNat = y.toNat := by rw [UInt8.toNat_ofNat']; omega
              rw [h]; omega⟩
            obtain ⟨d, hd⟩ : ∃ d, d = c ^^^ Y := ⟨_, rfl⟩
            have hxor : bits .xor .u8 (c.toNat : Int) y = (d.toNat : Int) := by
              have h1 := c.toNat_lt
              have h2 := Y.toNat_lt
              rw [hY, u8_xor_nat _ _ h1 h2, hd, UInt8.toNat_xor]
            have hcell : W4.cell? ⟨wr.heap.size, q, none⟩ = some (.int .u8 (c.toNat : Int)) := by
              obtain ⟨row, fr, q1, _, _, _, q5⟩ := hRow
              rw [cell_of_row _ _ _ _ _ _ q1, q5 q (by rw [list_size]; omega)]
              unfold bcells
              rw [List.getElem?_map, hc]; rfl
            have hfree : W4.frozen? ⟨wr.heap.size, q, none⟩ = false := hRow.free q (by obtain ⟨_, _, _, _, _, q4, _⟩ := hRow; rw [list_size] at q4; omega)
            obtain ⟨W5, hW5⟩ : ∃ W5, (W4.setCell ⟨wr.heap.size, q, none⟩ (.int .u8 (d.toNat : Int))).drew = W5 := ⟨_, rfl⟩
            obtain ⟨D, hD⟩ : ∃ D : ByteArray, D = ⟨(X.data.toList.set q d).toArray⟩ := ⟨_, rfl⟩
            have hDs : D.size = A.size + s.size := by rw [hD, ← hXs]; show (X.data.toList.set q d).toArray.size = X.size; rw [List.size_toArray, List.length_set, list_size]
            have hstr : (convert 51 9 (.slice (some ⟨wr.heap.size, 0, none⟩) (A.size + s.size) bc)).run Try.prog W5 = .ok (.string D) W5 := by
              have h1 := (hRow.set q d).kept (w' := W5) (by rw [← hW5]; rfl)
              have h2 := h1.string (P := Try.prog) bc Try.underlying51 Try.underlying5 Try.underlying9
              rw [List.length_set, list_size, ← hD, hXs] at h2
              exact h2
            have hb5 : Below w.heap.size w W5 := by
              have h0 : Below wr.heap.size wr W5 := by rw [← hW5]; exact (hb4.setCell (p := ⟨wr.heap.size, q, none⟩) (Nat.le_refl _) _).drew
              exact hbr.trans (h0.mono hbr.size)
            have HR := Lib.hid (And.intro hb5 hDs)
            have HW5 := Lib.hid hW5
            clear hRow hb4 hlt4 hbr hbw4 hX hXs hc hY hd hD hDs hb5 hW5 hq hqn
            by_cases hneg : at' < 0
            · rw [if_pos hneg] at hM
              go_wp2_with fail
              all_goals go_region
              all_goals rw [HW5.out]
              all_goals go_wp2_with fail
              all_goals go_meet
              all_goals exact ⟨D, rfl, by have := HR.out.2; omega, HR.out.1⟩
            · rw [if_neg hneg] at hM
              go_wp2_with fail
              all_goals go_region
              all_goals rw [HW5.out]
              all_goals go_wp2_with fail
              all_goals go_meet
              all_goals exact ⟨D, rfl, by have := HR.out.2; omega, HR.out.1⟩
  case rest =>
    obtain ⟨S, rfl, hS, hbS⟩ := hcut
    have hf := frames_any S (by omega)
    have hr := rframes_any S (by omega)
    have HFR := Lib.hid (And.intro hf (And.intro hr hbS))
    clear hf hr hbS
    go_wp2_with fail
    refine (HFR.out.1 _).mono ?_
    rintro e w4 ⟨gb4, cap4, ns4, rfl, h4, hb4⟩
    obtain ⟨a4, ha4⟩ : ∃ a : Option Addr, a = gb4.map fun b => ⟨b, 0, none⟩ := ⟨_, rfl⟩
    obtain ⟨c4, hc4⟩ : ∃ c, c = ns4.length := ⟨_, rfl⟩
    rw [← ha4, ← hc4]
    have H4 := Lib.hid (And.intro h4 (And.intro hb4 (And.intro ha4 hc4)))
    clear h4 hb4 ha4 hc4
    go_wp2_with fail
    refine (HFR.out.2.1 _).mono ?_
    rintro e w5 ⟨gb5, cap5, ns5, rfl, h5, hb5⟩
    obtain ⟨a5, ha5⟩ : ∃ a : Option Addr, a = gb5.map fun b => ⟨b, 0, none⟩ := ⟨_, rfl⟩
    obtain ⟨c5, hc5⟩ : ∃ c, c = ns5.length := ⟨_, rfl⟩
    rw [← ha5, ← hc5]
    have hns : ns4 = ns5 := by
      have e := H4.out.1.2.1.trans h5.2.1.symm
      exact (List.map_inj_right (f := fun x : ByteArray => x.data.toList) (fun x y h => ByteArray.ext (Array.toList_inj.mp h))).mp e
    subst hns
    have hSl : S.data.toList.length = S.size := by rw [Array.length_toList]; rfl
    have hn4 : ns4.length ≤ 9223372036854775807 := by
      have h1 := congrArg List.length h5.2.1
      have h2 : (framesL S.data.toList).length ≤ S.data.toList.length + 1 := framesF_len _ _
      rw [List.length_map] at h1
      omega
    have hA4 : StrArg w5 (.slice a4 c4 cap4) ns4 := by
      have := (H4.out.1.1.arg hn4).below hb5
      rw [← H4.out.2.2.1, ← H4.out.2.2.2] at this
      exact this
    have hA5 : StrArg w5 (.slice a5 c5 cap5) ns4 := by
      have := h5.1.arg hn4
      rw [← ha5, ← hc5] at this
      exact this
    have hs5 := same_true hA4 hA5
    have hbb : Below w.heap.size w w5 := by
      have e1 := HFR.out.2.2
      have e2 := e1.trans (H4.out.2.1.mono e1.size)
      exact e2.trans (hb5.mono e2.size)
    have HS5 := Lib.hid (And.intro hs5 hbb)
    clear hs5 hbb hA4 hA5 hn4 hSl h5 hb5 ha5 hc5 H4 HFR
    go_wp2_with fail
    refine HS5.out.1.mono ?_
    rintro e w6 ⟨rfl, hb6⟩
    go_wp2_with fail
    go_ret
    refine ⟨?_, HS5.out.2.trans (hb6.mono HS5.out.2.size)⟩
    rfl
end Go.Proofs.Ytmjeanbbhacnaaa
