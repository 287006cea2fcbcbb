/- The walk of the law RecordReplaces. No condition. -/
import Derived.Test.YtmjeanbbhacnaaaRecReplMath
namespace Go.Proofs.Ytmjeanbbhacnaaa
open Go.RowKit
theorem first_replace (s : List UInt8) (hs : s.length ≤ 100) : St.replace nF s ⟨[], 10000, -1, 0, false⟩ = (⟨[⟨nF, frameL s, (frameL s).length⟩], 10000, -1, 0, false⟩, 0) := by
  have lfs : (frameL s).length = s.length + 8 := frameL_length s
  unfold St.replace
  rw [if_neg (by omega)]
  unfold St.swap
  rw [if_neg (by intro e; rw [e] at lfs; simp at lfs), newF]
  have c0 : St.clean nF ⟨[], 10000, -1, 0, false⟩ = (⟨[], 10000, -1, 0, false⟩, 0) := rfl
  have c1 : St.app nFN (frameL s) ⟨[], 10000, -1, 0, false⟩ = (⟨[⟨nFN, frameL s, 0⟩], 10000, -1, 0, false⟩, 0) := by unfold St.app; rw [St.append_ok (by simp [ftotal]; omega), flay_zero]
  have c2 : St.sync nFN ⟨[⟨nFN, frameL s, 0⟩], 10000, -1, 0, false⟩ = (⟨[⟨nFN, frameL s, (frameL s).length⟩], 10000, -1, 0, false⟩, 0) := by unfold St.sync; rw [St.deed_ok (by simp [fget]), fsync_one]
  have c3 : St.ren nFN nF ⟨[⟨nFN, frameL s, (frameL s).length⟩], 10000, -1, 0, false⟩ = (⟨[⟨nF, frameL s, (frameL s).length⟩], 10000, -1, 0, false⟩, 0) := by
    unfold St.ren; rw [St.deed_ok (by simp [fget])]; simp [frename, fget, fdel, fput]
  simp only [St.until, c0, c1, c2, c3, if_true]
theorem first_add (s : List UInt8) (hs : s.length ≤ 100) : St.add nL s ⟨[⟨nF, frameL s, (frameL s).length⟩], 10000, -1, 0, false⟩ = (⟨twoF (frameL s) (frameL s) (frameL s).length (frameL s).length, 10000, -1, 0, false⟩, 0) := by
  have lfs : (frameL s).length = s.length + 8 := frameL_length s
  unfold St.add
  rw [if_neg (by omega)]
  have c1 : St.app nL (frameL s) ⟨[⟨nF, frameL s, (frameL s).length⟩], 10000, -1, 0, false⟩ = (⟨twoF (frameL s) (frameL s) (frameL s).length 0, 10000, -1, 0, false⟩, 0) := by
    unfold St.app; rw [St.append_ok (by rw [ftotal_one]; omega)]; simp [flay, fget, fput, twoF, ne1]
  have c2 : St.sync nL ⟨twoF (frameL s) (frameL s) (frameL s).length 0, 10000, -1, 0, false⟩ = (⟨twoF (frameL s) (frameL s) (frameL s).length (frameL s).length, 10000, -1, 0, false⟩, 0) := by
    unfold St.sync; rw [St.deed_ok (two_hasL _ _ _ _), two_syncL]
  simp only [St.until, c1, c2, if_true]
theorem wholeL_one (v : List UInt8) (hv : v.length ≤ 65536) : wholeL (frameL v) = some v := by
  unfold wholeL
  rw [framesL_one v hv]
  simp only [fsize_one, frameL_length, if_true]
theorem mended (v s u : List UInt8) (hv : v.length ≤ 100) (hs : s.length ≤ 100) (hu : u.length ≤ 100) (m lv j : Nat) (hm : m ≤ (frameL u).length) (R : List Fi) (hR : R = [] ∨ ∃ Y i, R = [⟨nFN, Y, i⟩] ∧ Y.length ≤ 108) :
    ∃ x', St.mend nL ⟨twoF (frameL v) (frameL s ++ (frameL u).take m) lv j ++ R, 10000, -1, 0, false⟩ = (x', 0) ∧ wholeL (rdL x' nF) = some v ∧ framesL (rdL x' nL) = if m = (frameL u).length then [s, u] else [s] := by
  obtain ⟨fs, hfs⟩ : ∃ x, x = frameL s := ⟨_, rfl⟩
  obtain ⟨fv, hfv⟩ : ∃ x, x = frameL v := ⟨_, rfl⟩
  obtain ⟨fu, hfu⟩ : ∃ x, x = frameL u := ⟨_, rfl⟩
  have lfs : fs.length = s.length + 8 := by rw [hfs, frameL_length]
  have lfv : fv.length = v.length + 8 := by rw [hfv, frameL_length]
  have lfu : fu.length = u.length + 8 := by rw [hfu, frameL_length]
  have hw : wholeL fv = some v := by rw [hfv]; exact wholeL_one v (by omega)
  rw [← hfs, ← hfv, ← hfu]
  rw [← hfu] at hm
  have hread : ∀ (a b : List UInt8) (i k : Nat), rdL ⟨twoF a b i k ++ R, 10000, -1, 0, false⟩ nL = b ∧ rdL ⟨twoF a b i k ++ R, 10000, -1, 0, false⟩ nF = a := fun a b i k => by
    simp [rdL, rdText, fget, twoF, ne1]
  have hfr : framesL (fs ++ fu.take m) = if m = fu.length then [s, u] else [s] := by
    rw [hfs, framesL_frame s _ (by omega)]
    by_cases e : m = fu.length
    · rw [if_pos e, e, List.take_length, hfu, framesL_one u (by omega)]
    · rw [if_neg e, hfu, framesL_none (oneL_torn u (by omega) m (by omega))]
  by_cases e : m = fu.length ∨ m = 0
  · refine ⟨_, ?_, by rw [(hread fv (fs ++ fu.take m) lv j).2]; exact hw, by rw [(hread fv (fs ++ fu.take m) lv j).1]; exact hfr⟩
    unfold St.mend
    rw [(hread fv (fs ++ fu.take m) lv j).1, if_neg]
    rw [hfr]
    rcases e with e | e
    · rw [if_pos e, e, List.take_length, List.length_append, lfs, lfu]; simp [fsize]
    · rw [e, List.take_zero, List.append_nil, lfs, if_neg (by omega)]; simp [fsize]
  · have e1 : m ≠ fu.length := fun h => e (.inl h)
    have e2 : m ≠ 0 := fun h => e (.inr h)
    rw [if_neg e1] at hfr ⊢
    have htk : (fu.take m).length = m := by rw [List.length_take]; omega
    have hsz : fsize [s] = fs.length := by rw [fsize_one, lfs]
    have c0 : St.clean nL ⟨twoF fv (fs ++ fu.take m) lv j ++ R, 10000, -1, 0, false⟩ = (⟨twoF fv (fs ++ fu.take m) lv j ++ R, 10000, -1, 0, false⟩, 0) := by
      unfold St.clean
      rw [newL, if_neg]
      rcases hR with rfl | ⟨Y, i, rfl, _⟩ <;> simp [rdThere, fget, twoF, ne4, ne5, ne6]
    have htot : ftotal (twoF fv (fs ++ fu.take m) lv j ++ R) ≤ 1000 := by
      rw [ftotal_append, two_total, List.length_append, htk]
      rcases hR with rfl | ⟨Y, i, rfl, hY⟩
      · simp [ftotal]; omega
      · simp [ftotal]; omega
    have c1 : St.app nLN fs ⟨twoF fv (fs ++ fu.take m) lv j ++ R, 10000, -1, 0, false⟩ = (⟨twoF fv (fs ++ fu.take m) lv j ++ R ++ [⟨nLN, fs, 0⟩], 10000, -1, 0, false⟩, 0) := by
      unfold St.app
      rw [St.append_ok (by omega)]
      rcases hR with rfl | ⟨Y, i, rfl, _⟩ <;> simp [flay, fget, fput, twoF, ne4, ne5, ne6]
    have c2 : St.sync nLN ⟨twoF fv (fs ++ fu.take m) lv j ++ R ++ [⟨nLN, fs, 0⟩], 10000, -1, 0, false⟩ = (⟨twoF fv (fs ++ fu.take m) lv j ++ R ++ [⟨nLN, fs, fs.length⟩], 10000, -1, 0, false⟩, 0) := by
      unfold St.sync
      rcases hR with rfl | ⟨Y, i, rfl, _⟩
      · rw [St.deed_ok (by simp [fget, twoF, ne4, ne5])]; simp [fsync, fget, fput, twoF, ne4, ne5]
      · rw [St.deed_ok (by simp [fget, twoF, ne4, ne5, ne6])]; simp [fsync, fget, fput, twoF, ne4, ne5, ne6]
    have c3 : St.ren nLN nL ⟨twoF fv (fs ++ fu.take m) lv j ++ R ++ [⟨nLN, fs, fs.length⟩], 10000, -1, 0, false⟩ = (⟨twoF fv fs lv fs.length ++ R, 10000, -1, 0, false⟩, 0) := by
      unfold St.ren
      rcases hR with rfl | ⟨Y, i, rfl, _⟩
      · rw [St.deed_ok (by simp [fget, twoF, ne4, ne5])]; simp [frename, fget, fput, fdel, twoF, ne4, ne5, ne1]
      · rw [St.deed_ok (by simp [fget, twoF, ne4, ne5, ne6])]; simp [frename, fget, fput, fdel, twoF, ne4, ne5, ne6, ne1, Ne.symm ne3]
    refine ⟨⟨twoF fv fs lv fs.length ++ R, 10000, -1, 0, false⟩, ?_, by rw [(hread fv fs lv fs.length).2]; exact hw, by rw [(hread fv fs lv fs.length).1, hfs, framesL_one s (by omega)]⟩
    unfold St.mend
    rw [(hread fv (fs ++ fu.take m) lv j).1, hfr, hsz, if_pos (by rw [List.length_append, htk]; omega), List.take_left' rfl]
    unfold St.swap
    rw [if_neg (by intro e; rw [e] at lfs; simp at lfs), newL]
    simp only [St.until, c0, c1, c2, c3, if_true]
set_option maxRecDepth 100000 in
set_option maxHeartbeats 1600000 in
theorem replaces_walk (s t u : ByteArray) (step : Int) (keep torn : Int) (h0 : 0 ≤ step) (h1 : step ≤ 255) (w : World) :
    Calls Try.prog 13 #[.string s, .string t, .string u, .int .u8 step, .int .i64 keep, .int .i64 torn] w fun e w' => e = .returned (.bool true) ∧ Below w.heap.size w w' := by
  have H := Lib.hid (@examples07)
  go_enter Try.func13, Try.ntmps13
  go_wp2_with fail
  refine (H.out w).mono ?_
  rintro e w1 ⟨rfl, hb1⟩
  go_upto_region 4 with fail
  go_cut [0] (fun v wx => ∃ a : ByteArray, v = .string a ∧ a.size ≤ 100 ∧ wx = w1)
  case first =>
    go_wp2_with fail
    all_goals go_meet
    all_goals first | exact ⟨_, rfl, by simp; omega, rfl⟩ | exact ⟨_, rfl, by omega, rfl⟩
  case rest =>
    obtain ⟨a, rfl, ha, rfl⟩ := hcut
    go_upto_region 5 with fail
    go_cut [1] (fun v wx => ∃ b : ByteArray, v = .string b ∧ b.size ≤ 100 ∧ wx = wc)
    case first =>
      go_wp2_with fail
      all_goals go_meet
      all_goals first | exact ⟨_, rfl, by simp; omega, rfl⟩ | exact ⟨_, rfl, by omega, rfl⟩
    case rest =>
      obtain ⟨b, rfl, hb, rfl⟩ := hcut
      go_upto_region 6 with fail
      go_cut [2] (fun v wx => ∃ c : ByteArray, v = .string c ∧ c.size ≤ 100 ∧ wx = wc)
      case first =>
        go_wp2_with fail
        all_goals go_meet
        all_goals first | exact ⟨_, rfl, by simp; omega, rfl⟩ | exact ⟨_, rfl, by omega, rfl⟩
      case rest =>
        obtain ⟨c, rfl, hc, rfl⟩ := hcut
        obtain ⟨k, hk⟩ : ∃ k : Nat, step % 8 = (k : Int) := ⟨(step % 8).toNat, by omega⟩
        have hk7 : (k : Int) ≤ 7 := by omega
        have las := list_size a
        have lbs := list_size b
        have lcs := list_size c
        have q1 := first_replace a.data.toList (by omega)
        have q2 := first_add a.data.toList (by omega)
        obtain ⟨st2, A, st3, B, v, m, j, R, q3, q4, q5, q6, q7, q8, q9, q10, q11⟩ := stage a.data.toList b.data.toList c.data.toList (by omega) (by omega) (by omega) k torn keep
        have hvl : v.length ≤ 100 := by rcases q8 with e | e <;> rw [e] <;> omega
        obtain ⟨x', q12, q13, q14⟩ := mended v a.data.toList c.data.toList hvl (by omega) (by omega) m (frameL v).length j q11 R q7
        obtain ⟨V, hV⟩ : ∃ V : ByteArray, V = ⟨((some v).getD []).toArray⟩ := ⟨_, rfl⟩
        have hVl : V.data.toList = v := by rw [hV]; rfl
        have hVa : V = a ∨ V = b := by
          rcases q8 with e | e
          · exact .inl (by apply ByteArray.ext; exact Array.toList_inj.1 (hVl.trans e))
          · exact .inr (by apply ByteArray.ext; exact Array.toList_inj.1 (hVl.trans e))
        have hAb : A = 0 → V = b := fun e => by apply ByteArray.ext; exact Array.toList_inj.1 (hVl.trans (q9 e))
        have Q := Lib.hid (And.intro q1 (And.intro q2 (And.intro q3 (And.intro q4 (And.intro q5 (And.intro q6 (And.intro q12 (And.intro q13 (And.intro q14 (And.intro q10 (And.intro hVa (And.intro hAb hV))))))))))))
        clear q1 q2 q3 q4 q5 q6 q7 q8 q9 q10 q11 q12 q13 q14 hvl hV hVl hVa hAb las lbs lcs
        go_wp2_with fail
        refine (new_one hb1 10000 (by omega) (by omega)).mono ?_
        rintro e w2 ⟨d, rfl, hO⟩
        have ha1 := replace_one hO ⟨#[102]⟩ a (by decide) Q.out.1
        have Ha1 := Lib.hid ha1
        clear ha1 hO hb1
        go_wp2_with fail
        refine Ha1.out.mono ?_
        rintro e w3 ⟨rfl, hO3, hK3⟩
        have ha2 := add_one hO3 ⟨#[108, 111, 103]⟩ a Q.out.2.1
        have Ha2 := Lib.hid ha2
        clear ha2 hO3 hK3 Ha1
        go_wp2_with fail
        refine Ha2.out.mono ?_
        rintro e w4 ⟨rfl, hO4, hK4⟩
        have ha3 := arm_one hO4 k torn (by omega)
        rw [show max (k : Int) (-1) = k by omega] at ha3
        have Ha3 := Lib.hid ha3
        clear ha3 hO4 hK4 Ha2
        go_wp2_with fail
        refine Ha3.out.mono ?_
        rintro e w5 ⟨rfl, hO5⟩
        have ha4 := replace_one hO5 ⟨#[102]⟩ b (by decide) Q.out.2.2.1
        have Ha4 := Lib.hid ha4
        clear ha4 hO5 Ha3
        go_wp2_with fail
        refine Ha4.out.mono ?_
        rintro e w6 ⟨rfl, hO6, hK6⟩
        have ha5 := add_one hO6 ⟨#[108, 111, 103]⟩ c Q.out.2.2.2.1
        have Ha5 := Lib.hid ha5
        clear ha5 hO6 hK6 Ha4
        go_wp2_with fail
        refine Ha5.out.mono ?_
        rintro e w7 ⟨rfl, hO7, hK7⟩
        have ha6 := lost_two hO7 keep
        rw [Q.out.2.2.2.2.2.1, Q.out.2.2.2.2.1] at ha6
        have Ha6 := Lib.hid ha6
        clear ha6 hO7 hK7 Ha5
        go_wp2_with fail
        refine Ha6.out.mono ?_
        rintro e w8 ⟨d2, rfl, hT⟩
        have ha7 := mend_one hT.swap.fst ⟨#[108, 111, 103]⟩ (by decide) Q.out.2.2.2.2.2.2.1
        have Ha7 := Lib.hid ha7
        clear ha7 hT Ha6
        go_wp2_with fail
        refine Ha7.out.mono ?_
        rintro e w9 ⟨rfl, hO9, hK9⟩
        have hq8 : wholeL (rdL x' ⟨#[102]⟩) = some v := Q.out.2.2.2.2.2.2.2.1
        have ha8 := whole_one hO9 ⟨#[102]⟩
        rw [hq8, ← Q.out.2.2.2.2.2.2.2.2.2.2.2.2] at ha8
        have Ha8 := Lib.hid ha8
        clear ha8 hO9 hK9 Ha7 hq8
        go_wp2_with fail
        refine Ha8.out.mono ?_
        rintro e w10 ⟨rfl, hO10, hb10⟩
        have hq9 : framesL (rdL x' ⟨#[108, 111, 103]⟩) = if m = (frameL c.data.toList).length then [a.data.toList, c.data.toList] else [a.data.toList] := Q.out.2.2.2.2.2.2.2.2.1
        have ha9 := all_one hO10 ⟨#[108, 111, 103]⟩
        rw [hq9] at ha9
        have Ha9 := Lib.hid ha9
        clear ha9 hO10 hb10 Ha8 hq9
        go_wp2_with fail
        refine Ha9.out.mono ?_
        rintro e w11 ⟨gb, cap, ns, rfl, hR, hns, hO11, hb11⟩
        obtain ⟨_, _, _, _, _, _, _, _, _, q10, hVa, hAb, _⟩ := Q.out
        have Hw := Lib.hid hO11.world
        clear hO11 hb11 Ha9 Q
        have hB : B = 0 ∨ B ≠ 0 := by omega
        have hA : A = 0 ∨ A ≠ 0 := by omega
        have hfin : ∀ (V : ByteArray) (A B : Int), V = V ∧ A = A ∧ B = B := fun _ _ _ => ⟨rfl, rfl, rfl⟩
        clear hfin ha hb hc hk hk7 h0 h1
        by_cases hm : m = (frameL c.data.toList).length
        · rw [if_pos hm] at hns
          have hnl : ns.length = 2 := by have := congrArg List.length hns; simpa using this
          obtain ⟨b8, rfl, hc0⟩ := hR.cell 0 (by omega)
          obtain ⟨b9, hb9, hc1⟩ := hR.cell 1 (by omega)
          obtain rfl : b8 = b9 := by simpa using hb9
          have hn : ns[0]'(by omega) = a ∧ ns[1]'(by omega) = c := by
            rcases ns with _ | ⟨x, _ | ⟨y, r⟩⟩
            · simp at hnl
            · simp at hnl
            · simp only [List.map_cons, List.cons.injEq] at hns
              exact ⟨by apply ByteArray.ext; exact Array.toList_inj.1 hns.1, by apply ByteArray.ext; exact Array.toList_inj.1 hns.2.1⟩
          rw [hn.1] at hc0
          rw [hn.2] at hc1
          rw [hnl]
          clear hn hnl hns hR hm q10 hb9
          rcases hA with hA | hA
          · have hVb := hAb hA
            subst hVb hA
            clear hVa hAb
            rcases hB with hB | hB
            · subst hB
              go_wp2_with fail
              all_goals (go_ret; exact ⟨rfl, Hw.out⟩)
            · have hB1 : (B == 0) = false := beq_eq_false_iff_ne.2 hB
              go_wp2_with fail
              all_goals (go_ret; exact ⟨rfl, Hw.out⟩)
          · have hA1 : (A == 0) = false := beq_eq_false_iff_ne.2 hA
            clear hAb
            rcases hVa with rfl | rfl <;> rcases hB with hB | hB
            · subst hB
              go_wp2_with fail
              all_goals (go_ret; exact ⟨rfl, Hw.out⟩)
            · have hB1 : (B == 0) = false := beq_eq_false_iff_ne.2 hB
              go_wp2_with fail
              all_goals (go_ret; exact ⟨rfl, Hw.out⟩)
            · subst hB
              go_wp2_with fail
              all_goals (go_ret; exact ⟨rfl, Hw.out⟩)
            · have hB1 : (B == 0) = false := beq_eq_false_iff_ne.2 hB
              go_wp2_with fail
              all_goals (go_ret; exact ⟨rfl, Hw.out⟩)
        · have hB1 : (B == 0) = false := by
            rcases hB with hB | hB
            · exact absurd (q10 hB) hm
            · exact beq_eq_false_iff_ne.2 hB
          have hB0 : B ≠ 0 := fun e => hm (q10 e)
          rw [if_neg hm] at hns
          have hnl : ns.length = 1 := by have := congrArg List.length hns; simpa using this
          obtain ⟨b8, rfl, hc0⟩ := hR.cell 0 (by omega)
          have hn : ns[0]'(by omega) = a := by
            rcases ns with _ | ⟨x, r⟩
            · simp at hnl
            · simp only [List.map_cons, List.cons.injEq] at hns
              exact (by apply ByteArray.ext; exact Array.toList_inj.1 hns.1)
          rw [hn] at hc0
          rw [hnl]
          clear hn hnl hns hR hm q10 hB
          rcases hA with hA | hA
          · have hVb := hAb hA
            subst hVb hA
            clear hVa hAb
            go_wp2_with fail
            all_goals (go_ret; exact ⟨rfl, Hw.out⟩)
          · have hA1 : (A == 0) = false := beq_eq_false_iff_ne.2 hA
            clear hAb
            rcases hVa with rfl | rfl
            · go_wp2_with fail
              all_goals (go_ret; exact ⟨rfl, Hw.out⟩)
            · go_wp2_with fail
              all_goals (go_ret; exact ⟨rfl, Hw.out⟩)
end Go.Proofs.Ytmjeanbbhacnaaa
