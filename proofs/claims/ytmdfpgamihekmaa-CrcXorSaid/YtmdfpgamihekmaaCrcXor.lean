/- The walk of the law CrcXor. -/
import Derived.Test.YtmdfpgamihekmaaCrcParts
import Derived.Test.YtmdfpgamihekmaaBytes
import Derived.Deep.OwnRows
import Derived.Deep.DeepCutAuto
namespace Go.Proofs.Ytmdfpgamihekmaa
open Go.RowKit Go.Deep
attribute [local go_sem ↓] Go.wp_at_zero Go.wp_at_succ
theorem info5 : (Try.prog.info? 5).map (fun i => (i.zero, i.size, i.bytes)) = some (some (.int .u8 0), 1, 1) := by kernel_rfl
/-- The three texts, xored, behind k bytes. -/
def xk (s t u : ByteArray) (n k : Nat) : List UInt8 := (CrcM.xorL (CrcM.xorL (s.data.toList.take n) (t.data.toList.take n)) (u.data.toList.take n)).take k ++ List.replicate (n - k) 0
theorem xL_length (s t u : ByteArray) (n : Nat) (h1 : n ≤ s.size) (h2 : n ≤ t.size) (h3 : n ≤ u.size) : (CrcM.xorL (CrcM.xorL (s.data.toList.take n) (t.data.toList.take n)) (u.data.toList.take n)).length = n := by
  simp [CrcM.xorL, h1, h2, h3]
theorem xk_length (s t u : ByteArray) (n k : Nat) (h1 : n ≤ s.size) (h2 : n ≤ t.size) (h3 : n ≤ u.size) (hk : k ≤ n) : (xk s t u n k).length = n := by
  unfold xk; rw [List.length_append, List.length_take, xL_length s t u n h1 h2 h3, List.length_replicate]; omega
theorem xk_zero (s t u : ByteArray) (n : Nat) : xk s t u n 0 = List.replicate n 0 := by simp [xk]
theorem xk_all (s t u : ByteArray) (n : Nat) (h1 : n ≤ s.size) (h2 : n ≤ t.size) (h3 : n ≤ u.size) : xk s t u n n = CrcM.xorL (CrcM.xorL (s.data.toList.take n) (t.data.toList.take n)) (u.data.toList.take n) := by
  unfold xk; rw [List.take_of_length_le (by rw [xL_length s t u n h1 h2 h3]; exact Nat.le_refl n)]; simp
theorem xk_at (s t u : ByteArray) (n k : Nat) (h1 : n ≤ s.size) (h2 : n ≤ t.size) (h3 : n ≤ u.size) (hk : k < n) : (xk s t u n k)[k]? = some 0 := by
  unfold xk
  rw [List.getElem?_append_right (by simp [xL_length s t u n h1 h2 h3]; omega), List.length_take, xL_length s t u n h1 h2 h3]
  rw [List.getElem?_replicate, if_pos (by omega)]
theorem xk_succ (s t u : ByteArray) (n k : Nat) (h1 : n ≤ s.size) (h2 : n ≤ t.size) (h3 : n ≤ u.size) (hk : k < n) :
    (xk s t u n k).set k (s[k] ^^^ t[k] ^^^ u[k]) = xk s t u n (k + 1) := by
  have hl := xL_length s t u n h1 h2 h3
  apply List.ext_getElem?
  intro i
  rw [List.getElem?_set]
  unfold xk
  by_cases e : k = i
  · subst e
    have hlen : (xk s t u n k).length = n := xk_length s t u n k h1 h2 h3 (by omega)
    unfold xk at hlen
    rw [if_pos rfl, if_pos (by rw [hlen]; exact hk), List.getElem?_append_left (by rw [List.length_take, hl]; omega), List.getElem?_take, if_pos (by omega)]
    unfold CrcM.xorL
    rw [List.getElem?_zipWith, List.getElem?_zipWith, List.getElem?_take, List.getElem?_take, List.getElem?_take, if_pos hk, if_pos hk, if_pos hk,
      List.getElem?_eq_getElem (by simp; omega), List.getElem?_eq_getElem (by simp; omega), List.getElem?_eq_getElem (by simp; omega)]
    rfl
  · rw [if_neg e]
    by_cases hlt : i < k
    · rw [List.getElem?_append_left (by rw [List.length_take, hl]; omega), List.getElem?_append_left (by rw [List.length_take, hl]; omega), List.getElem?_take, List.getElem?_take, if_pos hlt, if_pos (by omega)]
    · rw [List.getElem?_append_right (by rw [List.length_take, hl]; omega), List.getElem?_append_right (by rw [List.length_take, hl]; omega), List.length_take, List.length_take, hl, List.getElem?_replicate, List.getElem?_replicate]
      have : (i - min k n < n - k) = (i - min (k + 1) n < n - (k + 1)) := by apply propext; omega
      simp only [this]
theorem keepX {P : Program} {w wc wx : World} {g n : Nat} {X : ByteArray} {O : Obj} (hr : ∀ W : World, W.heap[g]? = some O → (convert 32 9 (.slice (some ⟨g, 0, none⟩) n n)).run P W = .ok (.string X) W)
    (h : (convert 32 9 (.slice (some ⟨g, 0, none⟩) n n)).run P wc = .ok (.string X) wc ∧ wc.heap[g]? = some O ∧ Below w.heap.size w wc) (hb : Below wc.heap.size wc wx) :
    (convert 32 9 (.slice (some ⟨g, 0, none⟩) n n)).run P wx = .ok (.string X) wx ∧ wx.heap[g]? = some O ∧ Below w.heap.size w wx := by
  have h1 : wx.heap[g]? = some O := (hb.block g (lt_of_block h.2.1)).trans h.2.1
  exact ⟨hr _ h1, h1, h.2.2.trans (hb.mono h.2.2.size)⟩
set_option maxRecDepth 100000 in
theorem xor_walk (s t u : ByteArray) (hz : s.size ≤ 140737488351232) (_hz1 : t.size ≤ 140737488351232) (_hz2 : u.size ≤ 140737488351232) (w : World) : Calls Try.prog 6 #[.string s, .string t, .string u] w fun e w' => e = .returned (.bool true) ∧ Below w.heap.size w w' := by
  go_enter Try.func6, Try.ntmps6
  go_wp2_with fail
  refine (examples_any _).mono ?_
  rintro e w1 ⟨rfl, hb1⟩
  go_upto_region 4 with fail
  go_cut [8] (fun v wx => ∃ n : Nat, v = .int .i64 n ∧ (n : Int) ≤ s.size ∧ (n : Int) ≤ t.size ∧ (n : Int) ≤ u.size ∧ wx = w1)
  case first =>
    go_wp2_with fail
    all_goals go_meet
    · exact ⟨u.size, rfl, by omega, by omega, by omega, rfl⟩
    · exact ⟨t.size, rfl, by omega, by omega, by omega, rfl⟩
    · exact ⟨s.size, rfl, by omega, by omega, by omega, rfl⟩
    · exact ⟨s.size, rfl, by omega, by omega, by omega, rfl⟩
  case rest =>
    obtain ⟨n, rfl, hn1, hn2, hn3, rfl⟩ := hcut
    have hmk := run_make_row' (P := Try.prog) 32 5 (.int .u8 0) 1 Try.underlying32 info5 rfl .i64 .i64 n (by omega) (by omega)
    go_wp2_with fail
    clear hmk
    have hB : Below w.heap.size w (wc.alloc (.cells (madeCells #[.int .u8 0] n) 5)) := hb1.alloc hb1.size _
    have hg0 : (wc.alloc (.cells (madeCells #[.int .u8 0] n) 5)).heap[wc.heap.size]? = some (.cells (bcells (xk s t u n 0)).toArray 5 (0, 0)) := by
      rw [xk_zero, ← bcells_zero]; exact heap_alloc_last _ _
    go_loopw [10] (fun i wr => ∃ k : Nat, k ≤ n ∧ i = .int .i64 k ∧ wr.heap[wc.heap.size]? = some (.cells (bcells (xk s t u n k)).toArray 5 (0, 0)) ∧ Below w.heap.size w wr) (fun i _ => n - (intOf i).toNat)
    case atStart => exact ⟨0, by omega, rfl, hg0, hB⟩
    case round =>
      obtain ⟨k, hk, rfl, hg, hBr⟩ := hrel
      clear hg0 hB
      have Hg := Lib.hid hg
      by_cases hlt : k < n
      · have hx := xk_at s t u n k (by omega) (by omega) (by omega) hlt
        have hcell : wr.cell? ⟨wc.heap.size, k, none⟩ = some (.int .u8 0) := by
          rw [cell_of_row wr wc.heap.size k _ _ _ hg]; simp [bcells, hx]
        have hfro := frozen_of_row wr wc.heap.size k _ _ hg
        have hs1 := xk_succ s t u n k (by omega) (by omega) (by omega) hlt
        have k1 : (k : Int) < s.size := by omega
        have k2 : (k : Int) < t.size := by omega
        have k3 : (k : Int) < u.size := by omega
        have k4 : k < s.size := by omega
        have k5 : k < t.size := by omega
        have k6 : k < u.size := by omega
        obtain ⟨c, hc⟩ : ∃ c : UInt8, c = s[k] ^^^ t[k] := ⟨_, rfl⟩
        obtain ⟨d, hd⟩ : ∃ d : UInt8, d = c ^^^ u[k] := ⟨_, rfl⟩
        have x1 : bits .xor .u8 (s[k].toNat : Int) (t[k].toNat : Int) = (c.toNat : Int) := by rw [hc, V_byte, V_byte, V_byte]; exact xor8 _ _
        have x2 : bits .xor .u8 (c.toNat : Int) (u[k].toNat : Int) = (d.toNat : Int) := by rw [hd, V_byte, V_byte, V_byte]; exact xor8 _ _
        rw [← hc, ← hd] at hs1
        have Hs1 := Lib.hid hs1
        clear hg hx hs1 hc hd
        go_wp2_with fail
        go_region
        all_goals go_wp2
        refine ⟨⟨k + 1, by omega, by go_num, ?_, ?_⟩, by simp [intOf]; omega⟩
        · have h1 := heap_setCell_same wr wc.heap.size k _ _ (.int .u8 (d.toNat : Int)) Hg.out
          rw [heap_drew, h1, List.setIfInBounds_toArray, bcells_set, Hs1.out]
        · exact (hBr.setCell (p := ⟨wc.heap.size, k, none⟩) hb1.size _).drew
      · have e : k = n := by omega
        subst e
        have hl := xk_length s t u k k (by omega) (by omega) (by omega) (by omega)
        have hxs := xk_all s t u k (by omega) (by omega) (by omega)
        obtain ⟨bs, hbs⟩ : ∃ bs, bs = xk s t u k k := ⟨_, rfl⟩
        rw [← hbs] at hl hxs hg
        obtain ⟨X, hX⟩ : ∃ X : ByteArray, X = ⟨bs.toArray⟩ := ⟨_, rfl⟩
        have hrun : ∀ W : World, W.heap[wc.heap.size]? = some (.cells (bcells bs).toArray 5 (0, 0)) → (convert 32 9 (.slice (some ⟨wc.heap.size, 0, none⟩) k k)).run Try.prog W = .ok (.string X) W := fun W h => by
          have := run_string_row (P := Try.prog) k bs h
          rw [hl, ← hX] at this; exact (run_convert_bytes_string W _ _ _ _ _ _ Try.underlying32 Try.underlying5 Try.underlying9).trans this
        obtain ⟨A, hA⟩ : ∃ A, A = CrcM.sum (s.data.toList.take k) := ⟨_, rfl⟩
        obtain ⟨B, hB2⟩ : ∃ A, A = CrcM.sum (t.data.toList.take k) := ⟨_, rfl⟩
        obtain ⟨C, hC⟩ : ∃ A, A = CrcM.sum (u.data.toList.take k) := ⟨_, rfl⟩
        obtain ⟨E, hE⟩ : ∃ E, E = A ^^^ B := ⟨_, rfl⟩
        obtain ⟨D, hD⟩ : ∃ D, D = E ^^^ C := ⟨_, rfl⟩
        have x1 : bits .xor .u32 (U A) (U B) = U E := by rw [hE]; exact xor32 A B
        have x2 : bits .xor .u32 (U E) (U C) = U D := by rw [hD]; exact xor32 E C
        have cX : ∀ w, Calls Try.prog 10 #[.string X] w fun e w' => e = .returned (.int .u32 (U D)) ∧ Below w.heap.size w w' := fun w => by
          have := sum_int X (by rw [hX]; unfold maxLen; simp [ByteArray.size, hl]; omega) w
          rw [show X.data.toList = bs by rw [hX], hxs, CrcM.sum_xor3 _ _ _ (by simp; omega) (by simp; omega), ← hA, ← hB2, ← hC, ← hE, ← hD] at this
          exact this
        have cs : ∀ (q : ByteArray) (R : BitVec 32), k ≤ q.size → R = CrcM.sum (q.data.toList.take k) → ∀ w, Calls Try.prog 10 #[.string (q.extract 0 k)] w fun e w' => e = .returned (.int .u32 (U R)) ∧ Below w.heap.size w w' := fun q R hq hR w => by
          have := sum_int (q.extract 0 k) (by unfold maxLen; simp; omega) w
          rw [show (q.extract 0 k).data.toList = q.data.toList.take k by simp, ← hR] at this; exact this
        have HX := Lib.hid cX
        have HA := Lib.hid (cs s A (by omega) hA)
        have HB := Lib.hid (cs t B (by omega) hB2)
        have HC := Lib.hid (cs u C (by omega) hC)
        have Hr := Lib.hid hrun
        clear cX cs hA hB2 hC hE hD hX hxs hbs hl hrun Hg hlt
        have k0 : (0 : Int) ≤ (k : Int) := by omega
        have Hg := Lib.hid hg
        clear hg
        go_wp2_with fail
        go_region_held3 (fun w' => (convert 32 9 (.slice (some ⟨wc.heap.size, 0, none⟩) k k)).run Try.prog w' = .ok (.string X) w' ∧ w'.heap[wc.heap.size]? = some (.cells (bcells bs).toArray 5 (0, 0)) ∧ Below w.heap.size w w') (first | assumption | exact ⟨Hr.out _ Hg.out, Hg.out, hBr.drew⟩ | exact keepX Hr.out (by assumption) (by assumption)) (first | (go_at_call 10; ((with_reducible refine (HX.out _).mono ?_); rintro e wx ⟨rfl, hbx⟩)) | (go_at_call 10; ((with_reducible refine (HA.out _).mono ?_); rintro e wx ⟨rfl, hbx⟩)) | (go_at_call 10; ((with_reducible refine (HB.out _).mono ?_); rintro e wx ⟨rfl, hbx⟩)) | (go_at_call 10; ((with_reducible refine (HC.out _).mono ?_); rintro e wx ⟨rfl, hbx⟩)))
        rename_i hS
        go_wp2
        go_ret
        exact ⟨rfl, hS.2.2⟩
end Go.Proofs.Ytmdfpgamihekmaa
