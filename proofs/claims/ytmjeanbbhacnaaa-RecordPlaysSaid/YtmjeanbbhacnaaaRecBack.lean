/- The walk of the law RecordBack. No condition. -/
import Derived.Test.YtmjeanbbhacnaaaVRow
import Derived.StillTailTactics
namespace Go.Proofs.Ytmjeanbbhacnaaa
open Go.RowKit
attribute [local go_sem ↓] Go.wp_at_zero Go.wp_at_succ
/-- Where each frame ends. -/
def endsC (ts : List (List UInt8)) : List Value := (List.range ts.length).map fun i => Value.int .i64 (fsize (ts.take (i + 1)) : Nat)
theorem endsC_snoc (ts : List (List UInt8)) (t : List UInt8) : endsC (ts ++ [t]) = endsC ts ++ [.int .i64 (fsize (ts ++ [t]) : Nat)] := by
  unfold endsC
  rw [List.length_append, List.length_singleton, List.range_succ, List.map_append, List.map_singleton]
  congr 1
  · apply List.map_congr_left
    intro i hi
    rw [List.mem_range] at hi
    rw [List.take_append_of_le_length (by omega)]
  · rw [List.take_of_length_le (by simp)]
theorem endsC_get (ts : List (List UInt8)) (i : Nat) (h : i < ts.length) : (endsC ts)[i]? = some (.int .i64 (fsize (ts.take (i + 1)) : Nat)) := by
  unfold endsC; simp [h]
theorem endsC_length (ts : List (List UInt8)) : (endsC ts).length = ts.length := by simp [endsC]
theorem fsize_100 (ts : List (List UInt8)) (h : ∀ t ∈ ts, t.length ≤ 100) : fsize ts ≤ 108 * ts.length := by
  induction ts with
  | nil => simp [fsize]
  | cons t r ih =>
    have h1 := h t List.mem_cons_self
    have h2 := ih fun x hx => h x (List.mem_cons_of_mem _ hx)
    have : fsize (t :: r) = t.length + 8 + fsize r := by simp [fsize]
    rw [this, List.length_cons]; omega
theorem bit_of_byte (c : UInt8) (r : Nat) (hr : r < 8) : ∃ d : UInt8, bits .xor .u8 (c.toNat : Int) (2 ^ r % 256) = (d.toNat : Int) ∧ d ≠ c := by
  obtain ⟨m, hm⟩ : ∃ m : UInt8, m = UInt8.ofNat (2 ^ r) := ⟨_, rfl⟩
  have hmn : ((2 : Int) ^ r % 256) = (m.toNat : Int) := by
    have : r = 0 ∨ r = 1 ∨ r = 2 ∨ r = 3 ∨ r = 4 ∨ r = 5 ∨ r = 6 ∨ r = 7 := by omega
    rw [hm]
    rcases this with rfl | rfl | rfl | rfl | rfl | rfl | rfl | rfl <;> rfl
  have hm0 : m ≠ 0 := by
    rw [hm]
    have : r = 0 ∨ r = 1 ∨ r = 2 ∨ r = 3 ∨ r = 4 ∨ r = 5 ∨ r = 6 ∨ r = 7 := by omega
    rcases this with rfl | rfl | rfl | rfl | rfl | rfl | rfl | rfl <;> decide
  refine ⟨c ^^^ m, ?_, fun e => hm0 ?_⟩
  · rw [hmn, V_byte, V_byte, V_byte]; exact xor8 _ _
  · have e2 : c ^^^ (c ^^^ m) = c ^^^ c := by rw [e]
    rw [← UInt8.xor_assoc, UInt8.xor_self, UInt8.zero_xor] at e2
    exact e2
set_option maxRecDepth 100000 in
set_option maxHeartbeats 1600000 in
theorem recback_walk (v : Value) (ss : List ByteArray) (bit : Int) (w : World) (hv : StrArg w v ss) (hbit : (Lit.int .u32 bit).wf = true) :
    Calls Try.prog 6 #[v, .int .u32 bit] w fun e w' => e = .returned (.bool true) ∧ Below w.heap.size w w' := by
  have hvb := fun w' (hb : Below w.heap.size w w') => hv.below hb
  obtain ⟨a, len, cap, rfl, k2, k3, k4, k5⟩ := hv
  have H := Lib.hid (@examples07)
  have HV := Lib.hid (And.intro hvb k2)
  have hb0 : 0 ≤ bit ∧ bit ≤ 4294967295 := by
    simp only [Lit.wf, IntKind.min, IntKind.max, IntKind.signed, IntKind.bits, Bool.and_eq_true] at hbit
    simpa using hbit
  obtain ⟨hbit0, hbit1⟩ := hb0
  have hlc : (len : Int) ≤ (cap : Int) := by omega
  clear hvb k2 k5 hbit k3
  go_enter Try.func6, Try.ntmps6
  go_wp2_with fail
  refine (H.out w).mono ?_
  rintro e w1 ⟨rfl, hb1⟩
  go_upto_region 6 with fail
  go_cut [0] (fun v wx => ∃ m : Nat, v = .slice a m cap ∧ (m : Int) ≤ (len : Int) ∧ (m : Int) ≤ 10 ∧ wx = w1)
  case first =>
    go_wp2_with fail
    all_goals go_meet
    exact ⟨(min (len : Int) 10).toNat, rfl, by omega, by omega, rfl⟩
  case rest =>
    obtain ⟨m, rfl, hml, hm10, rfl⟩ := hcut
    go_wp2_with fail
    go_loopw [6, 7, 8] (fun av ev i wr => ∃ (ts : List (List UInt8)) (gb : Option Nat) (cp : Nat) (X : ByteArray), av = .string X ∧ X.data.toList = frameAll ts ∧ ev = .slice (gb.map fun b => ⟨b, 0, none⟩) ts.length cp ∧ i = .int .i64 (ts.length : Nat) ∧
      (ts.length : Int) ≤ (m : Int) ∧ (∀ t ∈ ts, t.length ≤ 100) ∧ VRow 3 1 wr gb cp ts.length (endsC ts) ∧ (∀ b, gb = some b → w.heap.size ≤ b) ∧ Below w.heap.size w wr) (fun _ _ i _ => m - (intOf i).toNat)
    case atStart => exact ⟨[], none, 0, ⟨#[]⟩, rfl, rfl, rfl, rfl, by simp, (fun t ht => by cases ht), ⟨rfl, Nat.le_refl _, rfl⟩, (fun b e => by cases e), hb1⟩
    case round =>
      obtain ⟨ts, gb, cp, X, rfl, hX, rfl, rfl, hjm, hts, hR, hgb, hbw⟩ := hrel
      have hXs : X.size = fsize ts := by rw [← list_size, hX, frameAll_length]
      obtain ⟨j, hj⟩ : ∃ j, j = ts.length := ⟨_, rfl⟩
      have hf100 := fsize_100 ts hts
      obtain ⟨ea, hea⟩ : ∃ ea : Option Addr, ea = gb.map fun b => ⟨b, 0, none⟩ := ⟨_, rfl⟩
      rw [← hea, ← hj]
      rw [← hj] at hjm hf100
      have hj0 : (0 : Int) ≤ (j : Int) := by omega
      have hXi : (X.size : Int) ≤ 1080 := by omega
      by_cases hlt : (j : Int) < (m : Int)
      · obtain ⟨x1, len1, cap1, e1, g1, _, _, g2⟩ := HV.out.1 wr hbw
        have hk := HV.out.2
        simp only [Value.slice.injEq] at e1
        obtain ⟨rfl, rfl, rfl⟩ := e1
        obtain ⟨b1, rfl, hbl, c1⟩ := g2 j (by omega)
        obtain ⟨x, hx⟩ : ∃ x, x = ss[j]'(by omega) := ⟨_, rfl⟩
        rw [← hx] at c1
        have HS := Lib.hid (And.intro hts (And.intro hR (And.intro hgb (And.intro hbw (And.intro hj (And.intro hea (And.intro hX hXs)))))))
        clear hx g1 g2 hk hts hR hgb hbw hj hea hX hXs hf100
        have hS1 : wr.drew.cell? (b1.add j) = some (.string x) ∧ Below wr.heap.size wr wr.drew := ⟨c1, (Below.refl _ _).drew⟩
        have hC : ∀ wx, Below wr.heap.size wr wx → (wx.cell? (b1.add j) = some (.string x) ∧ Below wr.heap.size wr wx) := fun wx hb => ⟨(World.cell?_of_block (a := b1.add j) (by rw [show (b1.add j).block = b1.block by unfold Addr.add; split <;> rfl]; exact hb.block _ hbl)).trans c1, hb⟩
        have HC := Lib.hid hC
        obtain ⟨q, hq⟩ : ∃ q : Nat, min (x.size : Int) 100 = (q : Int) := ⟨min x.size 100, by omega⟩
        have hq0 : (0 : Int) ≤ (q : Int) := by omega
        have hqs : (q : Int) ≤ (x.size : Int) := by omega
        have hq100 : (q : Int) ≤ 100 := by omega
        obtain ⟨Y, hY⟩ : ∃ Y : ByteArray, Y = ⟨(frameL (x.extract 0 q).data.toList).toArray⟩ := ⟨_, rfl⟩
        have hyl : (x.extract 0 q).data.toList.length ≤ 100 := by rw [list_size]; simp; omega
        have hfr : ∀ (wx : World), Calls Try.prog 33 #[.string (x.extract 0 q)] wx fun e w' => e = .returned (.tuple #[.string Y, .bool true]) ∧ Below wx.heap.size wx w' := fun wx => by
          rw [hY]; exact frame_any _ (by simp; omega) wx
        obtain ⟨y, hy⟩ : ∃ y, y = (x.extract 0 q).data.toList := ⟨_, rfl⟩
        rw [← hy] at hY hyl
        have HY := Lib.hid (And.intro hY hyl)
        have Hfr := Lib.hid hfr
        clear hfr hC hbl hY hyl hy
        go_upto_region 10 with fail
        go_cut [9, 10] (fun v b wx => v = .string Y ∧ b = .bool true ∧ Below wr.heap.size wr wx)
        case first =>
          go_region_held3 (fun w' => w'.cell? (b1.add j) = some (.string x) ∧ Below wr.heap.size wr w') (first | assumption | exact hS1 | exact HC.out _ hbx) (first | (go_at_call 33; ((with_reducible refine (Hfr.out _).mono ?_); (rintro e wx ⟨rfl, hbx'⟩; have hbx := Below.trans ((Below.refl wr.heap.size wr).drew) hbx'))))
          all_goals rename_i hS
          all_goals go_wp2_with fail
          all_goals go_meet
          all_goals exact ⟨rfl, rfl, hS.2⟩
        case rest =>
          obtain ⟨rfl, rfl, hb9⟩ := hcut
          obtain ⟨hts, hR, hgb, hbw, hj, hea, hX, hXs⟩ := HS.out
          obtain ⟨hY, hyl⟩ := HY.out
          obtain ⟨Z, hZ⟩ : ∃ Z, X ++ Y = Z := ⟨_, rfl⟩
          have hYs : (Y.size : Int) ≤ 108 := by
            have : Y.size = y.length + 8 := by rw [← list_size, hY]; exact frameL_length y
            omega
          have hZl : Z.data.toList = frameAll (ts ++ [y]) := by rw [← hZ, frameAll_snoc, ← hX]; simp [hY]
          have hZs : Z.size = fsize (ts ++ [y]) := by rw [← list_size, hZl, frameAll_length]
          have hts' : ∀ t ∈ ts ++ [y], t.length ≤ 100 := fun t ht => by
            rcases List.mem_append.1 ht with h | h
            · exact hts t h
            · rw [List.mem_singleton.1 h]; exact hyl
          have hR9 := hR.below hb9
          obtain ⟨b', cap', W, r1, r2, r3, r4⟩ := run_append_int wc 56 gb cp ts.length (endsC ts) hR9 ((Z.size : Nat) : Int) (by omega)
          have hb10 : Below w.heap.size w wc := hbw.trans (hb9.mono hbw.size)
          have hbW : Below w.heap.size w W := by
            have e1 := hb10.alloc hb10.size (.cells #[.int .i64 ((Z.size : Nat) : Int)] 3 (0, 0))
            exact e1.grown r4 e1.size (fun k e => hgb k e)
          have hgb' : w.heap.size ≤ b' := by
            rcases r3 with e | e
            · exact hgb b' e
            · exact Nat.le_trans hb10.size e
          rw [hZs, ← endsC_snoc] at r2
          rw [← hea, ← hj] at r1
          rw [← hj] at r2
          have Hrun := Lib.hid r1
          have HF := Lib.hid (And.intro r2 (And.intro hgb' (And.intro hbW (And.intro hts' (And.intro hZl hj)))))
          clear hts hR hgb hbw hj hea hX hXs hY hyl hZl hZs hts' hR9 r1 r2 r3 r4 hb10 hbW hgb' hb9 HS HY
          go_wp2_with (at_builtin; refine wpList_append_run _ _ 56 56 _ _ _ W (by rfl) (by rfl) Hrun.out ?_; go_frame)
          obtain ⟨q1, q2, q3, q4, q5, q6⟩ := HF.out
          have hl1 : (ts ++ [y]).length = j + 1 := by rw [List.length_append, ← q6]; rfl
          refine ⟨⟨ts ++ [y], some b', cap', Z, rfl, q5, ?_, ?_, by rw [hl1]; omega, q4, by rw [hl1]; exact q1, fun b e => (by cases e; exact q2), q3⟩, ?_⟩
          · rw [hl1]; rfl
          · rw [hl1]; go_num
          · simp [intOf]; omega
      · obtain rfl : j = m := by omega
        have hfL : framesL X.data.toList = ts := by
          have := framesL_all ts [] (fun t ht => by have := hts t ht; omega)
          rw [List.append_nil] at this
          rw [hX, this]
          show ts ++ [] = ts
          rw [List.append_nil]
        have hfr := frames_any X (by omega) wr
        rw [hfL, ← hXs] at hfr
        have Hfr := Lib.hid hfr
        have HS := Lib.hid (And.intro hts (And.intro hR (And.intro hgb (And.intro hbw (And.intro hj (And.intro hea (And.intro hX hXs)))))))
        clear hfL hfr hts hR hgb hbw hj hea hX hXs hf100 hlt hjm
        go_wp2_with fail
        refine Hfr.out.mono ?_
        rintro e w3 ⟨gb3, cap3, ns3, rfl, ⟨_, hns3, _⟩, hb3⟩
        have hnl : ns3.length = j := by have := congrArg List.length hns3; rw [List.length_map] at this; rw [this, HS.out.2.2.2.2.1]
        rw [hnl]
        obtain ⟨a3, ha3⟩ : ∃ a : Option Addr, a = gb3.map fun b => ⟨b, 0, none⟩ := ⟨_, rfl⟩
        rw [← ha3]
        have HB3 := Lib.hid hb3
        clear hns3 hnl ha3 hb3 Hfr
        by_cases hX0 : X.size = 0
        · obtain rfl : X = ⟨#[]⟩ := by
            apply ByteArray.ext
            exact Array.eq_empty_of_size_eq_zero hX0
          go_wp2_with fail
          go_ret
          exact ⟨rfl, HS.out.2.2.2.1.trans (HB3.out.mono HS.out.2.2.2.1.size)⟩
        · have hne : X.toList.isEmpty = false := by
            rw [ByteArray.toList_eq]
            cases hh : X.data.toList with
            | nil => exact absurd (by rw [← list_size, hh]; rfl) hX0
            | cons x r => rfl
          have hL0 : (0 : Int) < (X.size : Int) := by omega
          obtain ⟨K, hK⟩ : ∃ K : Nat, bit % (8 * (X.size : Int)) = (K : Int) := ⟨(bit % (8 * (X.size : Int))).toNat, by have := Int.emod_nonneg bit (show 8 * (X.size : Int) ≠ 0 by omega); omega⟩
          have hKl : (K : Int) < 8 * (X.size : Int) := by rw [← hK]; exact Int.emod_lt_of_pos _ (by omega)
          have hK0 : (0 : Int) ≤ (K : Int) := by omega
          clear hX0
          obtain ⟨bc, W4, hconv, hRow, hb4, hlt4⟩ := run_bytes_row (P := Try.prog) w3 9 51 5 X Try.underlying9 Try.underlying51 Try.underlying5
          obtain ⟨p, hp⟩ : ∃ p, K / 8 = p := ⟨_, rfl⟩
          have hpI : (K : Int) / 8 = (p : Int) := by omega
          have hpX : (p : Int) < (X.size : Int) := by omega
          have hp0 : (0 : Int) ≤ (p : Int) := by omega
          obtain ⟨c, hc⟩ : ∃ c : UInt8, X.data.toList[p]? = some c := ⟨_, List.getElem?_eq_getElem (by rw [list_size]; omega)⟩
          have hcell : W4.cell? ⟨w3.heap.size, p, none⟩ = some (.int .u8 (c.toNat : Int)) := by
            obtain ⟨row, fr, q1, _, _, _, q5⟩ := hRow
            rw [cell_of_row _ _ _ _ _ _ q1, q5 p (by rw [list_size]; omega)]
            unfold bcells
            rw [List.getElem?_map, hc]; rfl
          have hfree : W4.frozen? ⟨w3.heap.size, p, none⟩ = false := hRow.free p (by obtain ⟨_, _, _, _, _, q4, _⟩ := hRow; rw [list_size] at q4; omega)
          obtain ⟨d, hd, hdc⟩ := bit_of_byte c (K % 8) (Nat.mod_lt _ (by omega))
          obtain ⟨W5, hW5⟩ : ∃ W5, (W4.setCell ⟨w3.heap.size, p, none⟩ (.int .u8 (d.toNat : Int))).drew = W5 := ⟨_, rfl⟩
          obtain ⟨D, hD⟩ : ∃ D : ByteArray, D = ⟨(X.data.toList.set p d).toArray⟩ := ⟨_, rfl⟩
          have hDs : D.size = X.size := by rw [hD]; show (X.data.toList.set p d).toArray.size = X.size; rw [List.size_toArray, List.length_set, list_size]
          have hstr : (convert 51 9 (.slice (some ⟨w3.heap.size, 0, none⟩) X.size bc)).run Try.prog W5 = .ok (.string D) W5 := by
            have h1 := (hRow.set p d).kept (w' := W5) (by rw [← hW5]; rfl)
            have h2 := h1.string (P := Try.prog) bc Try.underlying51 Try.underlying5 Try.underlying9
            rw [List.length_set, list_size, ← hD] at h2
            exact h2
          have hb5 : Below w3.heap.size w3 W5 := by rw [← hW5]; exact (hb4.setCell (p := ⟨w3.heap.size, p, none⟩) (Nat.le_refl _) _).drew
          have hfr5 := frames_any D (by omega) W5
          obtain ⟨TS, hTS⟩ : ∃ TS, TS = framesL D.data.toList := ⟨_, rfl⟩
          obtain ⟨F, hF⟩ : ∃ F, F = fsize TS := ⟨_, rfl⟩
          rw [← hTS, ← hF] at hfr5
          have HR4 := Lib.hid (And.intro hb5 (And.intro hc (And.intro hdc (And.intro hD (And.intro hTS hF)))))
          have Hfr5 := Lib.hid hfr5
          have HW5 := Lib.hid hW5
          clear hRow hb4 hlt4 hc hdc hp hD hDs hb5 hfr5 hTS hF hW5
          go_wp2_with fail
          go_region
          rw [HW5.out]
          go_wp2_with fail
          refine Hfr5.out.mono ?_
          rintro e w6 ⟨gb6, cap6, ns6, rfl, ⟨_, hns6, _⟩, hb6⟩
          have hnl6 : ns6.length = TS.length := by have := congrArg List.length hns6; rwa [List.length_map] at this
          obtain ⟨nc, hnc⟩ : ∃ nc, nc = ns6.length := ⟨_, rfl⟩
          obtain ⟨a6, ha6⟩ : ∃ a : Option Addr, a = gb6.map fun b => ⟨b, 0, none⟩ := ⟨_, rfl⟩
          rw [← ha6, ← hnc]
          have hbr : Below wr.heap.size wr w6 := (HB3.out.trans (HR4.out.1.mono HB3.out.size)).trans (hb6.mono (Nat.le_trans HB3.out.size HR4.out.1.size))
          have H6 := Lib.hid (And.intro hbr (hnc.trans hnl6))
          clear hns6 hnl6 hnc ha6 hbr hb6 Hfr5 hconv hcell hfree hd hstr hK hKl
          have hjpos : 0 < j := by
            rcases Nat.eq_zero_or_pos j with h0 | h0
            · have h1 := HS.out.2.2.2.2.1
              have h2 := HS.out.2.2.2.2.2.2.2
              rw [List.length_eq_zero_iff.1 (h1.symm.trans h0)] at h2
              have : fsize [] = 0 := rfl
              omega
            · exact h0
          obtain ⟨eb, heb, hebx⟩ := HS.out.2.1.cell 0 (by rw [endsC_length, ← HS.out.2.2.2.2.1]; exact hjpos)
          obtain rfl : ea = some ⟨eb, 0, none⟩ := by rw [HS.out.2.2.2.2.2.1, heb]; rfl
          have hends : ∀ i, i < j → w6.cell? ⟨eb, i, none⟩ = some (.int .i64 (fsize (ts.take (i + 1)) : Nat)) := fun i hi => by
            have hij : i < (endsC ts).length := by rw [endsC_length, ← HS.out.2.2.2.2.1]; exact hi
            obtain ⟨b2, e2, c2⟩ := (HS.out.2.1.below H6.out.1).cell i hij
            rw [heb] at e2
            cases e2
            rw [c2, ← List.getElem?_eq_getElem hij]
            exact endsC_get ts i (by rw [← HS.out.2.2.2.2.1]; exact hi)
          have Hends := Lib.hid hends
          clear hends heb hebx hjpos
          go_wp2_with fail
          go_loop [17, 18] (fun nv sv => ∃ n : Nat, nv = .int .i64 n ∧ sv = .int .i64 (fsize (ts.take n) : Nat) ∧ n ≤ j ∧ ∀ i, i < n → fsize (ts.take (i + 1)) ≤ p) (fun nv _ => j - (intOf nv).toNat)
          case atStart => exact ⟨0, rfl, rfl, Nat.zero_le _, fun i hi => absurd hi (Nat.not_lt_zero _)⟩
          case round =>
            obtain ⟨n, rfl, rfl, hnj, hle⟩ := hrel
            have hnj' : n < j := by
              rcases Nat.lt_or_ge n j with h0 | h0
              · exact h0
              · have h1 := HS.out.2.2.2.2.1
                have h2 := HS.out.2.2.2.2.2.2.2
                have hn0 : 0 < n := by
                  rcases Nat.eq_zero_or_pos n with h3 | h3
                  · have h4 : j = 0 := by omega
                    rw [List.length_eq_zero_iff.1 (h1.symm.trans h4)] at h2
                    have : fsize [] = 0 := rfl
                    omega
                  · exact h3
                have h3 := hle (n - 1) (by omega)
                rw [show n - 1 + 1 = n by omega, List.take_of_length_le (by omega)] at h3
                omega
            have hcn := Hends.out n hnj'
            obtain ⟨st, hst⟩ : ∃ st, st = fsize (ts.take n) := ⟨_, rfl⟩
            obtain ⟨fn, hfn⟩ : ∃ fn, fn = fsize (ts.take (n + 1)) := ⟨_, rfl⟩
            rw [← hfn] at hcn
            rw [← hst]
            have hst1 : (st : Int) ≤ 1080 := by
              have h1 := fsize_take_le ts n
              have h2 := HS.out.2.2.2.2.2.2.2
              omega
            have hnjI : (n : Int) < (j : Int) := by omega
            have hn0 : (0 : Int) ≤ (n : Int) := by omega
            by_cases hfp : (fn : Int) ≤ (p : Int)
            · have HH := Lib.hid (And.intro hle (And.intro hfn hnj'))
              clear hle hfn hnj hnj' hst
              go_wp2_with fail
              obtain ⟨hle, hfn, hnj'⟩ := HH.out
              refine ⟨⟨n + 1, by go_num, by rw [hfn], by omega, fun i hi => ?_⟩, by simp [intOf]; omega⟩
              by_cases e : i = n
              · rw [e, ← hfn]; omega
              · exact hle i (by omega)
            · by_cases h4 : (p : Int) - (st : Int) < 4
              · clear hle hfn hst
                go_wp2_with fail
                go_ret
                exact ⟨rfl, HS.out.2.2.2.1.trans (H6.out.1.mono HS.out.2.2.2.1.size)⟩
              · have hback := back_at ts (fun t ht => by have := HS.out.1 t ht; omega) n (by rw [← HS.out.2.2.2.2.1]; exact hnj') p (by omega) (by omega) d (by
                  rw [← HS.out.2.2.2.2.2.2.1, HR4.out.2.1]
                  intro e
                  exact HR4.out.2.2.1 (Option.some.inj e).symm)
                obtain ⟨hb1, hb2⟩ := hback
                rw [← HS.out.2.2.2.2.2.2.1] at hb1 hb2
                have hTS : TS = ts.take n := by
                  rw [HR4.out.2.2.2.2.1, HR4.out.2.2.2.1]
                  exact hb1
                have hncn : nc = n := by rw [H6.out.2, hTS, List.length_take]; have := HS.out.2.2.2.2.1; omega
                have hFst : F = st := by rw [HR4.out.2.2.2.2.2, hTS, hst]
                subst hncn
                subst hFst
                have hcut := frames_any (X.extract 0 p) (by simp; omega) w6
                rw [show (X.extract 0 p).data.toList = X.data.toList.take p by simp, hb2] at hcut
                have Hcut := Lib.hid hcut
                have hlen : (ts.take nc).length = nc := by rw [List.length_take]; have := HS.out.2.2.2.2.1; omega
                have Hlen := Lib.hid hlen
                have hprev : nc ≠ 0 → ∃ q : Nat, (nc : Int) - 1 = (q : Int) ∧ ∀ wx : World, Below w6.heap.size w6 wx → wx.cell? ⟨eb, q, none⟩ = some (.int .i64 (F : Int)) := fun h0 => by
                  refine ⟨nc - 1, by omega, fun wx hbx => ?_⟩
                  have h1 := Hends.out (nc - 1) (by omega)
                  rw [show nc - 1 + 1 = nc by omega, ← hst] at h1
                  exact (World.cell?_of_block (a := ⟨eb, nc - 1, none⟩) (hbx.block eb (World.block_lt_of_cell? w6 ⟨eb, nc - 1, none⟩ h1))).trans h1
                have Hprev := Lib.hid hprev
                have h00 : nc = 0 → F = 0 := fun e => by rw [hst, e]; rfl
                have H00 := Lib.hid h00
                have hpX' : (p : Int) ≤ (X.size : Int) := by omega
                clear hle hfn hst hb1 hb2 hTS hcut hlen hprev h00
                go_wp2_with fail
                refine Hcut.out.mono ?_
                rintro e w7 ⟨gb7, cap7, ns7, rfl, ⟨_, hns7, _⟩, hb7⟩
                have hnl7 : ns7.length = nc := by have := congrArg List.length hns7; rw [List.length_map] at this; rw [this, Hlen.out]
                rw [hnl7]
                obtain ⟨a7, ha7⟩ : ∃ a : Option Addr, a = gb7.map fun b => ⟨b, 0, none⟩ := ⟨_, rfl⟩
                rw [← ha7]
                have Hb7 := Lib.hid hb7
                clear hns7 hnl7 ha7 hb7 Hcut
                by_cases hz : nc = 0
                · have hF0 := H00.out hz
                  subst hF0
                  subst hz
                  go_wp2_with fail
                  go_ret
                  exact ⟨rfl, HS.out.2.2.2.1.trans ((H6.out.1.trans (Hb7.out.mono H6.out.1.size)).mono HS.out.2.2.2.1.size)⟩
                · obtain ⟨q, hq, hcq⟩ := Hprev.out hz
                  have hcq7 := hcq w7 Hb7.out
                  have hnz : ((nc : Int) == 0) = false := beq_eq_false_iff_ne.2 (by omega)
                  have hnz2 : ¬ (nc : Int) = 0 := by omega
                  have hnp : (0 : Int) < (nc : Int) := by omega
                  have hqj : (q : Int) < (j : Int) := by omega
                  clear hcq hz
                  go_wp2_with fail
                  go_ret
                  exact ⟨rfl, HS.out.2.2.2.1.trans ((H6.out.1.trans (Hb7.out.mono H6.out.1.size)).mono HS.out.2.2.2.1.size)⟩
end Go.Proofs.Ytmjeanbbhacnaaa
