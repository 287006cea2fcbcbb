/- The walk of the law RecordAdds. No condition. -/
import Derived.Test.YtmjeanbbhacnaaaRecMends
namespace Go.Proofs.Ytmjeanbbhacnaaa
open Go.RowKit
attribute [local go_sem ↓] Go.wp_at_zero Go.wp_at_succ
theorem rd_add (ts : List (List UInt8)) : rdL ⟨addF ts, 100000, -1, 0, false⟩ nF = frameAll ts := by
  unfold addF
  by_cases h : ts = []
  · subst h; rfl
  · rw [if_neg h]; unfold rdL; rw [(rd_one _ _ _).1]
theorem frames_add (ts : List (List UInt8)) (h : ∀ t ∈ ts, t.length ≤ 60) : framesL (frameAll ts) = ts := by
  have := framesL_all ts [] (fun t ht => by have := h t ht; omega)
  rw [List.append_nil] at this
  rw [this]
  show ts ++ [] = ts
  rw [List.append_nil]
theorem whole_add (ts : List (List UInt8)) (h : ∀ t ∈ ts, t.length ≤ 60) : wholeL (frameAll ts) = if ts.length = 1 then ts.head? else none := by
  unfold wholeL
  rw [frames_add ts h]
  rcases ts with _ | ⟨t, _ | ⟨u, r⟩⟩
  · rfl
  · simp [frameAll, fsize, frameL_length]
  · simp
theorem add_long (n : ByteArray) (s : List UInt8) (h : 65536 < s.length) (st : St) : St.add n s st = (st, 3) := by unfold St.add; rw [if_pos h]
theorem replace_long (n : ByteArray) (s : List UInt8) (h : 65536 < s.length) (st : St) : St.replace n s st = (st, 3) := by unfold St.replace; rw [if_pos h]
theorem One.grown {W0 w1 W : World} {d : Nat} {st : St} {gb : Option Nat} (h : One W0 w1 d st) (hg : w1.grownBy W gb) (hs : ∀ b, gb = some b → ∃ row fr, w1.heap[b]? = some (.cells row 9 fr)) (hl : ∀ b, gb = some b → W0.heap.size ≤ b) : One W0 W d st := by
  obtain ⟨F, h1, h2, h3⟩ := h
  refine ⟨F, h1.kept fun k hk => hg.block k (h1.lt hk) fun e => ?_, h2, h3.grown hg h3.size hl⟩
  obtain ⟨row, fr, hr⟩ := hs k e.symm
  obtain ⟨mb, gs, ck, hd, _, rfl, _⟩ := h1
  exact hd.not_foot hr (by decide) (by decide) (by decide) hk
theorem longs (w : World) : ∃ (W : World) (Z : ByteArray), (Instr.makeSlice 51 (.int .i64 65537) (.int .i64 65537)).run Try.prog w = .ok (.slice (some ⟨w.heap.size, 0, none⟩) 65537 65537) W ∧
    (convert 51 9 (.slice (some ⟨w.heap.size, 0, none⟩) 65537 65537)).run Try.prog W = .ok (.string Z) W ∧ 65536 < Z.data.toList.length ∧ Below w.heap.size w W := by
  obtain ⟨n, hn⟩ : ∃ n : Nat, n = 65537 := ⟨_, rfl⟩
  have h1 := run_make_bytes w n (by omega)
  have h2 := run_zeros w n
  have h3 : ((⟨(List.replicate n 0).toArray⟩ : ByteArray)).data.toList.length = n := by simp
  have e : ((n : Nat) : Int) = 65537 := by omega
  rw [e] at h1
  refine ⟨_, ⟨(List.replicate n 0).toArray⟩, by rw [← hn]; exact h1, by rw [← hn]; exact h2, by omega, (Below.refl _ _).alloc (Nat.le_refl _) _⟩
set_option maxRecDepth 100000 in
set_option maxHeartbeats 1600000 in
theorem adds_walk (v : Value) (ss : List ByteArray) (w : World) (hv : StrArg w v ss) :
    Calls Try.prog 12 #[v] w fun e w' => e = .returned (.bool true) ∧ Below w.heap.size w w' := by
  have hvb := fun w' (hb : Below w.heap.size w w') => hv.below hb
  obtain ⟨a, len, cap, rfl, k2, k3, k4, k5⟩ := hv
  have H := Lib.hid (@examples07)
  have HV := Lib.hid (And.intro hvb k2)
  clear hvb k2 k3 k5
  go_enter Try.func12, Try.ntmps12
  go_wp2_with fail
  refine (H.out w).mono ?_
  rintro e w1 ⟨rfl, hb1⟩
  go_wp2_with fail
  refine (new_one hb1 100000 (by omega) (by omega)).mono ?_
  rintro e w2 ⟨d, rfl, hO⟩
  clear hb1
  have HO := Lib.hid hO
  clear hO
  go_wp2_with fail
  go_loopw [6, 7] (fun wv i wr => ∃ (gb : Option Nat) (wc : Nat) (ns : List ByteArray), wv = .slice (gb.map fun b => ⟨b, 0, none⟩) ns.length wc ∧ i = .int .i64 (ns.length : Nat) ∧ (ns.length : Int) ≤ 8 ∧ (∀ t ∈ ns.map (·.data.toList), t.length ≤ 60) ∧
    SRowO wr gb wc ns ∧ (∀ b, gb = some b → w.heap.size ≤ b) ∧ One w wr d ⟨addF (ns.map (·.data.toList)), 100000, -1, 0, false⟩) (fun _ i _ => 8 - (intOf i).toNat)
  case atStart => exact ⟨none, 0, [], rfl, rfl, by simp, (fun t ht => by cases ht), ⟨rfl, rfl⟩, (fun b h => by cases h), HO.out⟩
  case round =>
    obtain ⟨gb, wc, ns, rfl, rfl, hj, hts, hR, hgb, hOj⟩ := hrel
    obtain ⟨j, hjn⟩ : ∃ j, j = ns.length := ⟨_, rfl⟩
    obtain ⟨wa, hwa⟩ : ∃ a : Option Addr, a = gb.map fun b => ⟨b, 0, none⟩ := ⟨_, rfl⟩
    rw [← hwa, ← hjn]
    rw [← hjn] at hj
    have hj0 : (0 : Int) ≤ (j : Int) := by omega
    have hfl : (frameAll (ns.map (·.data.toList))).length ≤ 544 := by
      rw [frameAll_length]
      have := fsize_le _ 60 hts
      rw [List.length_map, ← hjn] at this
      omega
    by_cases hlt : (j : Int) < (len : Int) ∧ (j : Int) < 8
    · obtain ⟨hl1, hl2⟩ := hlt
      obtain ⟨x1, len1, cap1, e1, g1, _, _, g2⟩ := HV.out.1 wr hOj.world
      have hk := HV.out.2
      simp only [Value.slice.injEq] at e1
      obtain ⟨rfl, rfl, rfl⟩ := e1
      obtain ⟨b1, rfl, hbl, c1⟩ := g2 j (by omega)
      obtain ⟨x, hx⟩ : ∃ x, x = ss[j]'(by omega) := ⟨_, rfl⟩
      rw [← hx] at c1
      have HS := Lib.hid (And.intro hts (And.intro hR (And.intro hgb (And.intro hOj (And.intro hjn (And.intro hwa hfl))))))
      clear hx g1 g2 hk hbl hts hR hgb hOj hjn hwa hfl
      go_upto_region 11 with fail
      go_cut [8] from 28 to 83 (fun v wx => ∃ y : ByteArray, v = .string y ∧ y.size ≤ 60 ∧ ∃ q, wx = wr.drewN q)
      case first =>
        go_quiet (fail)
        go_wp2_with fail
        all_goals go_meet
        all_goals first | exact ⟨_, rfl, by simp; omega, _, rfl⟩ | exact ⟨_, rfl, by omega, _, rfl⟩
      case rest =>
        obtain ⟨y, rfl, hy, q, rfl⟩ := hcut
        have hq : Below wr.heap.size wr (wr.drewN q) := ⟨rfl, rfl, rfl, Nat.le_refl _, fun _ _ => rfl⟩
        obtain ⟨hts, hR, hgb, hOj, hjn, hwa, hfl⟩ := HS.out
        have hOq := hOj.below hq
        have hRq := hR.keepT (KeepT.below hq)
        have hyl : y.data.toList.length ≤ 60 := by rw [list_size]; exact hy
        have hts' : ∀ t ∈ (ns ++ [y]).map (·.data.toList), t.length ≤ 60 := fun t ht => by
          rw [List.map_append, List.map_singleton] at ht
          rcases List.mem_append.1 ht with ht | ht
          · exact hts t ht
          · rw [List.mem_singleton.1 ht]; exact hyl
        have hadd := add_one hOq ⟨#[102]⟩ y (addF_step _ y.data.toList (by omega) (by omega))
        rw [show ns.map (·.data.toList) ++ [y.data.toList] = (ns ++ [y]).map (·.data.toList) by simp] at hadd
        have Hadd := Lib.hid hadd
        have HT := Lib.hid (And.intro hRq (And.intro hts' (And.intro hgb (And.intro hjn hwa))))
        clear hq hts hR hgb hOj hjn hwa hfl hOq hRq hyl hts' hadd HS c1
        go_upto_region 12 with fail
        go_wp2_with fail
        refine Hadd.out.mono ?_
        rintro e w5 ⟨rfl, hO5, hK5⟩
        clear Hadd
        obtain ⟨hRq, hts', hgb, hjn, hwa⟩ := HT.out
        have hR5 := hRq.keepT hK5
        obtain ⟨b', cap', W, hrun, r1, r2, r3⟩ := run_append_string w5 32 gb wc ns hR5 y (by omega)
        rw [← hwa, ← hjn] at hrun
        have hb5 : Below w5.heap.size w5 (w5.alloc (.cells #[.string y] 9 (0, 0))) := (Below.refl _ _).alloc (Nat.le_refl _) _
        have hOW : One w W d ⟨addF ((ns ++ [y]).map (·.data.toList)), 100000, -1, 0, false⟩ := (hO5.below hb5).grown r3 (fun b e => by
          subst e
          obtain ⟨row, k1, _⟩ := hR5
          exact ⟨row, (0, 0), (hb5.block _ (lt_of_block k1)).trans k1⟩) hgb
        have hgb' : ∀ b, some b' = some b → w.heap.size ≤ b := fun b e => by
          cases e
          rcases r2 with e | e
          · exact hgb b' e
          · exact Nat.le_trans hO5.world.size e
        have Hrun := Lib.hid hrun
        have hall := all_one hOW ⟨#[102]⟩
        rw [show rdL ⟨addF ((ns ++ [y]).map (·.data.toList)), 100000, -1, 0, false⟩ ⟨#[102]⟩ = _ from rd_add _, frames_add _ hts'] at hall
        have HW := Lib.hid (And.intro hall (And.intro r1 (And.intro hgb' (And.intro hts' hjn))))
        clear hrun hall r1 r2 r3 hb5 hOW hgb' hts' hjn hwa hgb hRq hR5 hO5 hK5 HT
        go_wp2_with (at_builtin; refine wpList_append_run _ _ 32 32 _ _ _ W (by rfl) (by rfl) Hrun.out ?_; go_frame)
        refine HW.out.1.mono ?_
        rintro e w6 ⟨gb6, cap6, ns6, rfl, hR6, hns6, hO6, hb6⟩
        obtain ⟨_, r1, hgb', hts', hjn⟩ := HW.out
        obtain rfl : ns6 = ns ++ [y] := lists_inj hns6
        have r6 := r1.keepT (KeepT.below hb6)
        have hnl : (ns ++ [y]).length = j + 1 := by rw [List.length_append, ← hjn]; rfl
        have hsame : Calls Try.prog 30 #[.slice (gb6.map fun b => ⟨b, 0, none⟩) (ns ++ [y]).length cap6, .slice (some ⟨b', 0, none⟩) (j + 1) cap'] w6 fun e w' => e = .returned (.bool true) ∧ Below w6.heap.size w6 w' := by
          rw [← hnl]
          exact same_true (hR6.arg (by omega)) (r6.arg (by omega))
        obtain ⟨a6, ha6⟩ : ∃ a : Option Addr, a = gb6.map fun b => ⟨b, 0, none⟩ := ⟨_, rfl⟩
        obtain ⟨l6, hl6⟩ : ∃ l, l = (ns ++ [y]).length := ⟨_, rfl⟩
        rw [← ha6, ← hl6] at hsame
        rw [← ha6, ← hl6]
        have HX := Lib.hid (And.intro hsame (And.intro r6 (And.intro hgb' (And.intro hts' (And.intro hjn (And.intro hnl hO6))))))
        clear ha6 hsame r6 hgb' hts' hjn hO6 hR6 hns6 hb6 r1 HW hnl hl6
        go_wp2_with fail
        refine HX.out.1.mono ?_
        rintro e w7 ⟨rfl, hb7⟩
        obtain ⟨_, r6, hgb', hts', hjn, hnl, hO6⟩ := HX.out
        have hO7 := hO6.below hb7
        have r7 := r6.keepT (KeepT.below hb7)
        have hwh := whole_one hO7 ⟨#[102]⟩
        rw [show rdL ⟨addF ((ns ++ [y]).map (·.data.toList)), 100000, -1, 0, false⟩ ⟨#[102]⟩ = _ from rd_add _, whole_add _ hts'] at hwh
        by_cases hj00 : j = 0
        · have hw2 : (if ((ns ++ [y]).map (·.data.toList)).length = 1 then ((ns ++ [y]).map (·.data.toList)).head? else none) = some y.data.toList := by
            rw [List.length_eq_zero_iff.1 (hjn.symm.trans hj00)]; rfl
          rw [hw2, show (⟨((some y.data.toList).getD []).toArray⟩ : ByteArray) = y from rfl] at hwh
          have HY := Lib.hid (And.intro hwh (And.intro r7 (And.intro hgb' (And.intro hts' (And.intro hjn hnl)))))
          subst hj00
          clear hwh r7 hgb' hts' hjn hnl hO7 hO6 r6 hb7 HX hw2
          go_wp2_with fail
          refine HY.out.1.mono ?_
          rintro e w8 ⟨rfl, hO8, hb8⟩
          obtain ⟨_, r7, hgb', hts', hjn, hnl⟩ := HY.out
          have r8 := r7.keepT (KeepT.below hb8)
          have HZ := Lib.hid (And.intro r8 (And.intro hgb' (And.intro hts' (And.intro hnl hO8))))
          clear r7 hgb' hts' hjn hnl HY r8 hO8 hb8
          go_wp2_with fail
          obtain ⟨q1, q2, q3, q4, q5⟩ := HZ.out
          exact ⟨⟨some b', cap', ns ++ [y], by rw [q4]; rfl, by rw [q4]; rfl, by omega, q3, q1, q2, q5⟩, by simp [intOf]⟩
        · have hw2 : (if ((ns ++ [y]).map (·.data.toList)).length = 1 then ((ns ++ [y]).map (·.data.toList)).head? else none) = none := by
            rw [if_neg (by rw [List.length_map]; omega)]
          rw [hw2] at hwh
          have HY := Lib.hid (And.intro hwh (And.intro r7 (And.intro hgb' (And.intro hts' (And.intro hjn hnl)))))
          have hj0b : ((j : Int) == 0) = false := beq_eq_false_iff_ne.2 (by omega)
          have hj0n : ¬ (j : Int) = 0 := by omega
          clear hwh r7 hgb' hts' hjn hnl hO7 hO6 r6 hb7 HX hw2 hj00
          go_wp2_with fail
          refine HY.out.1.mono ?_
          rintro e w8 ⟨rfl, hO8, hb8⟩
          obtain ⟨_, r7, hgb', hts', hjn, hnl⟩ := HY.out
          have r8 := r7.keepT (KeepT.below hb8)
          have HZ := Lib.hid (And.intro r8 (And.intro hgb' (And.intro hts' (And.intro hnl hO8))))
          clear r7 hgb' hts' hjn hnl HY r8 hO8 hb8
          go_wp2_with fail
          obtain ⟨q1, q2, q3, q4, q5⟩ := HZ.out
          exact ⟨⟨some b', cap', ns ++ [y], by rw [q4]; rfl, by rw [q4]; go_num, by omega, q3, q1, q2, q5⟩, by simp [intOf]; omega⟩
    · have hF : framesL (rdL ⟨addF (ns.map (·.data.toList)), 100000, -1, 0, false⟩ ⟨#[102]⟩) = ns.map (·.data.toList) := by
        rw [show rdL ⟨addF (ns.map (·.data.toList)), 100000, -1, 0, false⟩ ⟨#[102]⟩ = _ from rd_add _, frames_add _ hts]
      have hG : framesL (rdL ⟨addF (ns.map (·.data.toList)), 100000, -1, 0, false⟩ ⟨#[103]⟩) = [] := by
        have : rdL ⟨addF (ns.map (·.data.toList)), 100000, -1, 0, false⟩ ⟨#[103]⟩ = [] := by
          unfold addF
          split
          · rfl
          · simp [rdL, rdText, fget, nF]
        rw [this]; rfl
      obtain ⟨W4, Z, hmk, hzs, hZl, hB4⟩ := longs wr
      have hO4 : One w W4 d ⟨addF (ns.map (·.data.toList)), 100000, -1, 0, false⟩ := hOj.below hB4
      have hlong := add_one hO4 ⟨#[102]⟩ Z (add_long _ _ hZl _)
      have Hlong := Lib.hid (And.intro hlong trivial)
      have HG := Lib.hid hG
      have HF := Lib.hid hF
      have Hjn := Lib.hid hjn
      clear hlong hO4 hB4 hZl hF hG hjn hts hR hgb hOj hwa hfl
      have hor : ((j : Int) < (len : Int) ∧ ¬ (j : Int) < 8) ∨ ¬ (j : Int) < (len : Int) := by omega
      rcases hor with ⟨hl1, hl2⟩ | hl1
      · go_wp2_with fail
        all_goals
          refine Hlong.out.1.mono ?_
          rintro e w5 ⟨rfl, hO5, hK5⟩
          obtain ⟨W6, Z6, hmk, hzs, hZl6, hB6⟩ := longs w5
          have hO6 : One w W6 d ⟨addF (ns.map (·.data.toList)), 100000, -1, 0, false⟩ := hO5.below hB6
          have hrep := replace_one hO6 ⟨#[102]⟩ Z6 (by decide) (replace_long _ _ hZl6 _)
          have Hrep := Lib.hid hrep
          clear hrep hO6 hB6 hZl6 hO5 hK5 Hlong
          go_wp2_with fail
          refine Hrep.out.mono ?_
          rintro e w7 ⟨rfl, hO7, hK7⟩
          have hall := all_one hO7 ⟨#[103]⟩
          rw [HG.out] at hall
          have Hall := Lib.hid hall
          clear hall hO7 hK7 Hrep
          go_wp2_with fail
          refine Hall.out.mono ?_
          rintro e w8 ⟨gb8, cap8, ns8, rfl, hR8, hns8, hO8, hb8⟩
          have hn8 : ns8.length = 0 := by have := congrArg List.length hns8; simpa using this
          rw [hn8]
          obtain ⟨a8, ha8⟩ : ∃ a : Option Addr, a = gb8.map fun b => ⟨b, 0, none⟩ := ⟨_, rfl⟩
          rw [← ha8]
          have hall2 := all_one hO8 ⟨#[102]⟩
          rw [HF.out] at hall2
          have Hall2 := Lib.hid hall2
          clear ha8 hn8 hR8 hns8 hO8 hb8 Hall hall2
          go_wp2_with fail
          refine Hall2.out.mono ?_
          rintro e w9 ⟨gb9, cap9, ns9, rfl, hR9, hns9, hO9, hb9⟩
          obtain rfl : ns9 = ns := lists_inj hns9
          rw [← Hjn.out]
          obtain ⟨a9, ha9⟩ : ∃ a : Option Addr, a = gb9.map fun b => ⟨b, 0, none⟩ := ⟨_, rfl⟩
          rw [← ha9]
          have Hw := Lib.hid hO9.world
          clear ha9 hR9 hns9 hO9 hb9 Hall2
          go_wp2_with fail
          go_ret
          exact ⟨rfl, Hw.out⟩
      · go_wp2_with fail
        all_goals
          refine Hlong.out.1.mono ?_
          rintro e w5 ⟨rfl, hO5, hK5⟩
          obtain ⟨W6, Z6, hmk, hzs, hZl6, hB6⟩ := longs w5
          have hO6 : One w W6 d ⟨addF (ns.map (·.data.toList)), 100000, -1, 0, false⟩ := hO5.below hB6
          have hrep := replace_one hO6 ⟨#[102]⟩ Z6 (by decide) (replace_long _ _ hZl6 _)
          have Hrep := Lib.hid hrep
          clear hrep hO6 hB6 hZl6 hO5 hK5 Hlong
          go_wp2_with fail
          refine Hrep.out.mono ?_
          rintro e w7 ⟨rfl, hO7, hK7⟩
          have hall := all_one hO7 ⟨#[103]⟩
          rw [HG.out] at hall
          have Hall := Lib.hid hall
          clear hall hO7 hK7 Hrep
          go_wp2_with fail
          refine Hall.out.mono ?_
          rintro e w8 ⟨gb8, cap8, ns8, rfl, hR8, hns8, hO8, hb8⟩
          have hn8 : ns8.length = 0 := by have := congrArg List.length hns8; simpa using this
          rw [hn8]
          obtain ⟨a8, ha8⟩ : ∃ a : Option Addr, a = gb8.map fun b => ⟨b, 0, none⟩ := ⟨_, rfl⟩
          rw [← ha8]
          have hall2 := all_one hO8 ⟨#[102]⟩
          rw [HF.out] at hall2
          have Hall2 := Lib.hid hall2
          clear ha8 hn8 hR8 hns8 hO8 hb8 Hall hall2
          go_wp2_with fail
          refine Hall2.out.mono ?_
          rintro e w9 ⟨gb9, cap9, ns9, rfl, hR9, hns9, hO9, hb9⟩
          obtain rfl : ns9 = ns := lists_inj hns9
          rw [← Hjn.out]
          obtain ⟨a9, ha9⟩ : ∃ a : Option Addr, a = gb9.map fun b => ⟨b, 0, none⟩ := ⟨_, rfl⟩
          rw [← ha9]
          have Hw := Lib.hid hO9.world
          clear ha9 hR9 hns9 hO9 hb9 Hall2
          go_wp2_with fail
          go_ret
          exact ⟨rfl, Hw.out⟩
end Go.Proofs.Ytmjeanbbhacnaaa
