/- The walk of the document's own answer to chapter 7: Frames. The bound: the bytes are at most 2^40. -/
import Derived.Test.YtmjeanbbhacnaaaRefFramesM
namespace Go.Proofs.Ytmjeanbbhacnaaa
open Go.RowKit
attribute [local go_sem ↓] Go.wp_at_zero Go.wp_at_succ
set_option maxRecDepth 100000 in
set_option maxHeartbeats 1600000 in
theorem rframes_any (s : ByteArray) (hs : s.size ≤ 1099511627776) (w : World) : Calls Try.prog 36 #[.string s] w fun e w' => ∃ (gb : Option Nat) (cap : Nat) (ns : List ByteArray),
    e = .returned (.tuple #[.slice (gb.map fun b => ⟨b, 0, none⟩) ns.length cap, .int .i64 (fsize (framesL s.data.toList) : Nat)]) ∧ (SRowO w' gb cap ns ∧ ns.map (·.data.toList) = framesL s.data.toList ∧ (∀ b, gb = some b → w.heap.size ≤ b)) ∧ Below w.heap.size w w' := by
  have hlen : s.data.toList.length = s.size := by rw [Array.length_toList]; rfl
  have Hlen := Lib.hid hlen
  have Hs := Lib.hid hs
  clear hlen hs
  go_enter Try.func36, Try.ntmps36
  go_wp2_with fail
  go_loopw [4, 5] (fun v i wr => ∃ (gb : Option Nat) (cap : Nat) (ns : List ByteArray) (p : Nat), v = .slice (gb.map fun b => ⟨b, 0, none⟩) ns.length cap ∧ i = .int .i64 p ∧ SRowO wr gb cap ns ∧ Fr s.data.toList (ns.map (·.data.toList)) p ∧ (∀ b, gb = some b → w.heap.size ≤ b) ∧ Below w.heap.size w wr) (fun _ i _ => s.size + 1 - (intOf i).toNat)
  case atStart => exact ⟨none, 0, [], 0, rfl, rfl, ⟨rfl, rfl⟩, Fr.nil, (fun b h => by cases h), Below.refl _ _⟩
  case round =>
    obtain ⟨gb, cap, ns, p, rfl, rfl, hR, hF, hgb, hb⟩ := hrel
    obtain ⟨k1, k2, k3⟩ := hF.size
    rw [Hlen.out] at k2
    rw [List.length_map] at k3
    have hps : (p : Int) ≤ (s.size : Int) := by omega
    have hp0 : (0 : Int) ≤ (p : Int) := by omega
    have hsb : (s.size : Int) ≤ 1099511627776 := by have := Hs.out; omega
    obtain ⟨a, ha⟩ : ∃ a : Option Addr, a = gb.map fun b => ⟨b, 0, none⟩ := ⟨_, rfl⟩
    obtain ⟨c, hc⟩ : ∃ c, c = ns.length := ⟨_, rfl⟩
    rw [← ha, ← hc]
    have HH := Lib.hid (And.intro hR (And.intro hF (And.intro hgb (And.intro hb (And.intro ha (And.intro hc (And.intro k1 (And.intro k2 k3))))))))
    clear hR hF hgb hb ha hc k1 k2 k3
    by_cases h8 : (p : Int) + 8 ≤ (s.size : Int)
    · have i0 : (p : Int) < (s.size : Int) := by omega
      have i1 : (p : Int) + 1 < (s.size : Int) := by omega
      have i2 : (p : Int) + 2 < (s.size : Int) := by omega
      have i3 : (p : Int) + 3 < (s.size : Int) := by omega
      have j1 : (0 : Int) ≤ (p : Int) + 1 := by omega
      have j2 : (0 : Int) ≤ (p : Int) + 2 := by omega
      have j3 : (0 : Int) ≤ (p : Int) + 3 := by omega
      have m0 : p < s.size := by omega
      have m1 : p + 1 < s.size := by omega
      have m2 : p + 2 < s.size := by omega
      have m3 : p + 3 < s.size := by omega
      have c0 : (s[p].toNat : Int) < 256 := by have := s[p].toNat_lt; omega
      have c1 : (s[p + 1].toNat : Int) < 256 := by have := s[p + 1].toNat_lt; omega
      have c2 : (s[p + 2].toNat : Int) < 256 := by have := s[p + 2].toNat_lt; omega
      have c3 : (s[p + 3].toNat : Int) < 256 := by have := s[p + 3].toNat_lt; omega
      have w1 : IntKind.i64.wrap ((p : Int) + 1) = (p : Int) + 1 := IntWalk.i64_in _ (by omega)
      have w2 : IntKind.i64.wrap ((p : Int) + 2) = (p : Int) + 2 := IntWalk.i64_in _ (by omega)
      have w3 : IntKind.i64.wrap ((p : Int) + 3) = (p : Int) + 3 := IntWalk.i64_in _ (by omega)
      go_upto_region 4 with fail
      go_quiet (fail)
      rw [num4_i64 s p m0 m1 m2 m3]
      obtain ⟨wd, hwd⟩ : ∃ wd, wd = wr.drewN nq := ⟨_, rfl⟩
      rw [← hwd]
      have HD := Lib.hid (And.intro (show SRowO wd gb cap ns by rw [hwd]; exact HH.out.1.kept (fun _ _ => rfl)) (And.intro HH.out.2.1 (And.intro HH.out.2.2.1 (And.intro (show Below w.heap.size w wd by rw [hwd]; exact ⟨HH.out.2.2.2.1.os, HH.out.2.2.2.1.tape, HH.out.2.2.2.1.output, HH.out.2.2.2.1.size, HH.out.2.2.2.1.block⟩) HH.out.2.2.2.2))))
      clear HH hwd
      have HH := HD
      clear HD
      obtain ⟨n, hn⟩ : ∃ n : Nat, (num4 (s.data.toList.drop p)).toNat = n := ⟨_, rfl⟩
      rw [U_nat, hn]
      have hn0 : (0 : Int) ≤ (n : Int) := by omega
      have hnb : (n : Int) < 4294967296 := by have := (num4 (s.data.toList.drop p)).isLt; omega
      have Hn := Lib.hid hn
      clear hn
      by_cases hbig : (65536 : Int) < (n : Int)
      · go_wp2_with fail
        go_ret2
        obtain ⟨hR, hF, hgb, hb, ha, hc, k1, k2, k3⟩ := HH.out
        have hlen := Hlen.out
        have ho : oneL (s.data.toList.drop p) = none := by
          unfold oneL
          rw [List.length_drop]
          rw [if_neg (by omega), if_pos (by have := Hn.out; omega)]
        have hdone := hF.done ho
        refine ⟨gb, cap, ns, ?_, ⟨hR, hdone.symm, hgb⟩, hb⟩
        rw [hdone, ← k1, ← ha, ← hc]
        rfl
      · by_cases hover : (s.size : Int) < (p : Int) + 8 + (n : Int)
        · go_wp2_with fail
          go_ret2
          obtain ⟨hR, hF, hgb, hb, ha, hc, k1, k2, k3⟩ := HH.out
          have hlen := Hlen.out
          have ho : oneL (s.data.toList.drop p) = none := by
            unfold oneL
            rw [List.length_drop]
            rw [if_neg (by omega), if_pos (by have := Hn.out; omega)]
          have hdone := hF.done ho
          refine ⟨gb, cap, ns, ?_, ⟨hR, hdone.symm, hgb⟩, hb⟩
          rw [hdone, ← k1, ← ha, ← hc]
          rfl
        · obtain ⟨T, hT⟩ : ∃ T, T = s.extract (p + 8) (p + 8 + n) := ⟨_, rfl⟩
          obtain ⟨E, hE⟩ : ∃ E, E = s.extract p (p + 8 + n) := ⟨_, rfl⟩
          have hTl : T.data.toList = ((s.data.toList.drop p).drop 8).take n := by
            rw [hT]; simp only [ByteArray.data_extract, Array.toList_extract, List.extract_eq_take_drop, List.drop_drop]
            congr 1; omega
          have hEl : E.data.toList = (s.data.toList.drop p).take (8 + n) := by
            rw [hE]; simp only [ByteArray.data_extract, Array.toList_extract, List.extract_eq_take_drop]
            congr 1; omega
          have hTs : T.size = n := by rw [hT, ByteArray.size_extract]; omega
          obtain ⟨Z, hZ⟩ : ∃ Z : ByteArray, Z = ⟨(frameL T.data.toList).toArray⟩ := ⟨_, rfl⟩
          have hfr := rframe_any T (by omega) wd
          rw [← hZ] at hfr
          have ho : oneL (s.data.toList.drop p) = if Z = E then some T.data.toList else none := by
            rw [oneL_frame_iff (s.data.toList.drop p) n (by rw [List.length_drop, Hlen.out]; omega) Hn.out (by omega), ← hTl, ← hEl]
            have e : (frameL T.data.toList = E.data.toList) ↔ Z = E := by
              rw [hZ]
              constructor
              · intro h; apply ByteArray.ext; rw [h]
              · intro h; rw [← h]
            by_cases hh : Z = E
            · rw [if_pos hh, if_pos (e.mpr hh)]
            · rw [if_neg hh, if_neg (fun h => hh (e.mp h))]
          have Hfr := Lib.hid hfr
          have Ho := Lib.hid ho
          have HTs := Lib.hid hTs
          have HTZ := Lib.hid (And.intro hTl (And.intro hEl hZ))
          clear hfr ho hTs hTl hEl hZ
          rw [hT] at Hfr
          go_wp2_with fail
          refine Hfr.out.mono ?_
          rintro e w1 ⟨rfl, hb1⟩
          by_cases hZE : Z = E
          · rw [if_pos hZE] at Ho
            rw [hE] at hZE
            rw [hZE]
            have HX := Lib.hid (And.intro hT (And.intro hE hZE))
            clear hT hE hZE
            have hneq := neq_str_same (s.extract p (p + 8 + n))
            obtain ⟨hT, hE, hZE⟩ := HX.out
            obtain ⟨hTl, hEl, hZ⟩ := HTZ.out
            have hTs := HTs.out
            have ho := Ho.out
            have htl := oneL_length ho
            obtain ⟨hR, hF, hgb, hb, ha, hc, k1, k2, k3⟩ := HH.out
            rw [List.length_drop, Hlen.out] at htl
            have hR1 : SRowO w1 gb cap ns := hR.kept fun b e => hb1.block b (by rw [e] at hR; exact hR.lt)
            obtain ⟨b', cap', W, hrun, r1, r2, r3⟩ := run_append_string w1 32 gb cap ns hR1 T (by have := Hs.out; omega)
            rw [← ha, ← hc] at hrun
            have hTlen : T.data.toList.length = n := by rw [← hTs, Array.length_toList]; rfl
            have hbW : Below w.heap.size w W := by
              have e1 : Below w.heap.size w (w1.alloc (.cells #[.string T] 9 (0, 0))) := (hb.trans (hb1.mono hb.size)).alloc (Nat.le_trans hb.size hb1.size) _
              exact e1.grown r3 e1.size (fun k e => hgb k e)
            have hgb' : w.heap.size ≤ b' := by
              rcases r2 with e | e
              · exact hgb b' e
              · exact Nat.le_trans (Nat.le_trans hb.size hb1.size) e
            have hF' : Fr s.data.toList ((ns ++ [T]).map (·.data.toList)) (p + (n + 8)) := by
              rw [List.map_append, List.map_singleton]
              have := hF.snoc ho
              rw [hTlen] at this
              exact this
            rw [hT] at hrun
            have Hrun := Lib.hid hrun
            have HF := Lib.hid (And.intro r1 (And.intro hF' (And.intro hgb' (And.intro hbW hc))))
            clear hR hF hgb hb ha hc k1 k2 k3 hR1 hrun r1 r2 r3 hTlen hbW hgb' hF' hTs htl ho HX HH hT hE hZE hTl hEl hZ
            go_wp2_with (at_builtin; refine wpList_append_run _ _ 32 32 _ _ _ W (by rfl) (by rfl) Hrun.out ?_; go_frame)
            obtain ⟨q1, q2, q3, q4, q7⟩ := HF.out
            refine ⟨⟨some b', cap', ns ++ [T], _, ?_, ?_, q1, q2, fun b e => (by cases e; exact q3), q4⟩, ?_⟩
            · rw [List.length_append, ← q7]; rfl
            · go_num
            · simp [intOf]; omega
          · rw [if_neg hZE] at Ho
            rw [hE] at hZE
            have HX := Lib.hid (And.intro hT (And.intro hE hZE))
            have hneq : (Z.toList == (s.extract p (p + 8 + n)).toList) = false := neq_lists hZE
            clear hT hE hZE
            go_upto_region 8 with fail
            iterate 31 go_step
            try rw [hneq]
            go_wp2_with fail
            go_ret2
            obtain ⟨hR, hF, hgb, hb, ha, hc, k1, k2, k3⟩ := HH.out
            have hdone := hF.done Ho.out
            refine ⟨gb, cap, ns, ?_, ⟨hR.kept fun b e => hb1.block b (by rw [e] at hR; exact hR.lt), hdone.symm, hgb⟩, hb.trans (hb1.mono hb.size)⟩
            rw [hdone, ← k1, ← ha, ← hc]
            rfl
    · go_wp2_with fail
      go_ret2
      obtain ⟨hR, hF, hgb, hb, ha, hc, k1, k2, k3⟩ := HH.out
      have hlen := Hlen.out
      have ho : oneL (s.data.toList.drop p) = none := by
        unfold oneL
        rw [List.length_drop]
        rw [if_pos (by omega)]
      have hdone := hF.done ho
      refine ⟨gb, cap, ns, ?_, ⟨hR, hdone.symm, hgb⟩, hb⟩
      rw [hdone, ← k1, ← ha, ← hc]
      rfl
end Go.Proofs.Ytmjeanbbhacnaaa
