/- The walk of the law RecordTears. No condition. -/
import Derived.Test.YtmjeanbbhacnaaaRecMath
namespace Go.Proofs.Ytmjeanbbhacnaaa
open Go.RowKit
theorem new_none {n m : ByteArray} {s : List UInt8} {k : Nat} (h : n ≠ m) : rdThere [⟨n, s, k⟩] m = false := by simp [rdThere, fget, h]
set_option maxRecDepth 100000 in
set_option maxHeartbeats 1600000 in
theorem tears_walk (s t : ByteArray) (at0 : Int) (h0 : 0 ≤ at0) (h1 : at0 ≤ 255) (w : World) :
    Calls Try.prog 11 #[.string s, .string t, .int .u8 at0] w fun e w' => e = .returned (.bool true) ∧ Below w.heap.size w w' := by
  have H := Lib.hid (@examples07)
  go_enter Try.func11, Try.ntmps11
  go_wp2_with fail
  refine (H.out w).mono ?_
  rintro e w1 ⟨rfl, hb1⟩
  go_upto_region 4 with fail
  go_cut [0] (fun v wx => ∃ a : ByteArray, v = .string a ∧ a.size ≤ 100 ∧ wx = w1)
  case first =>
    go_wp2_with fail
    all_goals go_meet
    all_goals first | exact ⟨_, rfl, by simp; omega, rfl⟩ | exact ⟨_, rfl, by omega, rfl⟩
  case rest =>
    obtain ⟨a, rfl, ha, rfl⟩ := hcut
    go_upto_region 5 with fail
    go_cut [1] (fun v wx => ∃ b : ByteArray, v = .string b ∧ b.size ≤ 100 ∧ wx = wc)
    case first =>
      go_wp2_with fail
      all_goals go_meet
      all_goals first | exact ⟨_, rfl, by simp; omega, rfl⟩ | exact ⟨_, rfl, by omega, rfl⟩
    case rest =>
      obtain ⟨b, rfl, hb, rfl⟩ := hcut
      go_wp2_with fail
      refine (new_one hb1 10000 (by omega) (by omega)).mono ?_
      rintro e w2 ⟨d, rfl, hO⟩
      clear hb1
      have las := list_size a
      have lbs := list_size b
      obtain ⟨X, hX⟩ : ∃ X : ByteArray, X = ⟨(frameL a.data.toList).toArray⟩ := ⟨_, rfl⟩
      have hXl : X.data.toList = frameL a.data.toList := by rw [hX]
      have hXs : (X.size : Int) = (a.size : Int) + 8 := by
        have : X.size = a.size + 8 := by rw [← list_size, hXl, frameL_length, las]
        omega
      have hfr := frame_any a (by omega) w2
      rw [← hX] at hfr
      obtain ⟨k, hk⟩ : ∃ k : Nat, at0 % ((a.size : Int) + 8) = (k : Int) := ⟨(at0 % ((a.size : Int) + 8)).toNat, by have := Int.emod_nonneg at0 (show (a.size : Int) + 8 ≠ 0 by omega); omega⟩
      have hkl : (k : Int) < (a.size : Int) + 8 := by rw [← hk]; exact Int.emod_lt_of_pos _ (by omega)
      have hk0 : (0 : Int) ≤ (k : Int) := by omega
      obtain ⟨T, hT⟩ : ∃ T : ByteArray, T = X.extract 0 k := ⟨_, rfl⟩
      have hTl : T.data.toList = (frameL a.data.toList).take k := by rw [hT, cut_list, hXl]
      have hTk : T.data.toList.length = k := by rw [hTl, List.length_take, frameL_length, las]; omega
      have hone : oneL T.data.toList = none := by rw [hTl]; exact oneL_torn _ (by omega) k (by omega)
      have q1 : St.append ⟨[], 10000, -1, 0, false⟩ ⟨#[102]⟩ T.data.toList = (⟨[⟨⟨#[102]⟩, T.data.toList, 0⟩], 10000, -1, 0, false⟩, 0) := by rw [St.append_ok (by rw [hTk]; simp [ftotal]; omega), flay_zero]
      have r1 : rdL ⟨[⟨⟨#[102]⟩, T.data.toList, 0⟩], 10000, -1, 0, false⟩ ⟨#[102]⟩ = T.data.toList := by unfold rdL; rw [(rd_one _ _ _).1]
      have f1 : framesL (rdL ⟨[⟨⟨#[102]⟩, T.data.toList, 0⟩], 10000, -1, 0, false⟩ ⟨#[102]⟩) = [] := by rw [r1]; exact framesL_none hone
      obtain ⟨F2, hF2, q2⟩ : ∃ F2, FOne F2 ∧ ftotal F2 = 0 ∧ St.mend ⟨#[102]⟩ ⟨[⟨⟨#[102]⟩, T.data.toList, 0⟩], 10000, -1, 0, false⟩ = (⟨F2, 10000, -1, 0, false⟩, 0) := by
        by_cases hz : T.data.toList = []
        · refine ⟨[⟨⟨#[102]⟩, T.data.toList, 0⟩], .inr ⟨_, _, rfl⟩, by rw [hz]; rfl, ?_⟩
          unfold St.mend
          rw [f1, r1, if_neg (by rw [hz]; simp [fsize])]
        · refine ⟨[], .inl rfl, rfl, ?_⟩
          unfold St.mend
          rw [f1, r1, if_pos (by have := List.length_pos_iff.2 hz; simpa [fsize] using this)]
          rw [show fsize ([] : List (List UInt8)) = 0 from rfl, List.take_zero]
          unfold St.swap
          rw [if_pos rfl]
          have c1 : St.clean ⟨#[102]⟩ ⟨[⟨⟨#[102]⟩, T.data.toList, 0⟩], 10000, -1, 0, false⟩ = (⟨[⟨⟨#[102]⟩, T.data.toList, 0⟩], 10000, -1, 0, false⟩, 0) := by
            unfold St.clean
            rw [if_neg (by rw [new_none (by decide)]; decide)]
          have c2 : St.del ⟨#[102]⟩ ⟨[⟨⟨#[102]⟩, T.data.toList, 0⟩], 10000, -1, 0, false⟩ = (⟨[], 10000, -1, 0, false⟩, 0) := by
            unfold St.del
            rw [St.deed_ok (by simp [fget])]; simp [fdel]
          simp [St.until, c1, c2]
      obtain ⟨hF2t, q2⟩ := q2
      obtain ⟨F3, q3, f3⟩ : ∃ F3, St.add ⟨#[102]⟩ b.data.toList ⟨F2, 10000, -1, 0, false⟩ = (⟨F3, 10000, -1, 0, false⟩, 0) ∧ framesL (rdL ⟨F3, 10000, -1, 0, false⟩ ⟨#[102]⟩) = [b.data.toList] := by
        have hfl : (frameL b.data.toList).length = b.size + 8 := by rw [frameL_length, lbs]
        have c1 : St.app ⟨#[102]⟩ (frameL b.data.toList) ⟨F2, 10000, -1, 0, false⟩ = (⟨flay F2 ⟨#[102]⟩ (frameL b.data.toList), 10000, -1, 0, false⟩, 0) := by
          unfold St.app; rw [St.append_ok (by rw [hF2t, hfl]; omega)]
        have e2 : ∃ k, flay F2 ⟨#[102]⟩ (frameL b.data.toList) = [⟨⟨#[102]⟩, frameL b.data.toList, k⟩] := by
          rcases hF2 with rfl | ⟨Y, j, rfl⟩
          · exact ⟨0, flay_zero _ _⟩
          · refine ⟨j, ?_⟩
            have : Y = [] := by
              rw [ftotal_one] at hF2t
              exact List.length_eq_zero_iff.1 hF2t
            rw [flay_one, this, List.nil_append]
        obtain ⟨j, hj⟩ := e2
        rw [hj] at c1
        have c2 : St.sync ⟨#[102]⟩ ⟨[⟨⟨#[102]⟩, frameL b.data.toList, j⟩], 10000, -1, 0, false⟩ = (⟨[⟨⟨#[102]⟩, frameL b.data.toList, (frameL b.data.toList).length⟩], 10000, -1, 0, false⟩, 0) := by
          unfold St.sync; rw [St.deed_ok (by simp [fget]), fsync_one]
        refine ⟨[⟨⟨#[102]⟩, frameL b.data.toList, (frameL b.data.toList).length⟩], ?_, ?_⟩
        · unfold St.add
          rw [if_neg (by omega)]
          simp [St.until, c1, c2]
        · unfold rdL
          rw [(rd_one _ _ _).1]
          exact framesL_one _ (by omega)
      have Q := Lib.hid (And.intro q1 (And.intro f1 (And.intro q2 (And.intro q3 f3))))
      have Hfr := Lib.hid hfr
      have HO := Lib.hid hO
      have hTs : T.size ≤ 281474976710656 := by rw [← list_size, hTk]; omega
      have HX := Lib.hid (And.intro hTs hT)
      clear hfr hO hXl hX q1 r1 f1 q2 q3 f3 hF2 hF2t hTl hTk hone las lbs hT hTs
      go_wp2_with fail
      refine Hfr.out.mono ?_
      rintro e w3 ⟨rfl, hb3⟩
      have hO3 := HO.out.below hb3
      clear HO Hfr hb3
      have ha1 := append_one hO3 ⟨#[102]⟩ T HX.out.1 Q.out.1
      rw [HX.out.2] at ha1
      have Ha1 := Lib.hid ha1
      clear ha1 hO3
      go_wp2_with fail
      refine Ha1.out.mono ?_
      rintro e w4 ⟨rfl, hO4⟩
      clear Ha1
      have ha2 := all_one hO4 ⟨#[102]⟩
      rw [← HX.out.2, Q.out.2.1] at ha2
      have Ha2 := Lib.hid ha2
      clear ha2 hO4
      go_wp2_with fail
      refine Ha2.out.mono ?_
      rintro e w5 ⟨gb, cap, ns, rfl, hR5, hns, hO5, hb5⟩
      have hnl : ns.length = 0 := by have := congrArg List.length hns; simpa using this
      rw [hnl]
      obtain ⟨a5, ha5⟩ : ∃ a : Option Addr, a = gb.map fun b => ⟨b, 0, none⟩ := ⟨_, rfl⟩
      rw [← ha5]
      have ha3 := mend_one hO5 ⟨#[102]⟩ (by decide) Q.out.2.2.1
      have Ha3 := Lib.hid ha3
      clear ha3 hO5 hb5 hR5 hns hnl ha5 Ha2
      go_wp2_with fail
      refine Ha3.out.mono ?_
      rintro e w6 ⟨rfl, hO6, hK6⟩
      have ha4 := add_one hO6 ⟨#[102]⟩ b Q.out.2.2.2.1
      have Ha4 := Lib.hid ha4
      clear ha4 hO6 hK6 Ha3
      go_wp2_with fail
      refine Ha4.out.mono ?_
      rintro e w7 ⟨rfl, hO7, hK7⟩
      have ha7 := all_one hO7 ⟨#[102]⟩
      rw [Q.out.2.2.2.2] at ha7
      have Ha7 := Lib.hid ha7
      clear ha7 hO7 hK7 Ha4
      go_wp2_with fail
      refine Ha7.out.mono ?_
      rintro e w8 ⟨gb8, cap8, ns8, rfl, hR8, hns8, hO8, hb8⟩
      have hnl : ns8.length = 1 := by have := congrArg List.length hns8; simpa using this
      obtain ⟨b8, rfl, hc8⟩ := hR8.cell 0 (by omega)
      have hn0 : ns8[0]'(by omega) = b := by
        rcases ns8 with _ | ⟨x, r⟩
        · simp at hnl
        · simp only [List.map_cons, List.cons.injEq] at hns8
          apply ByteArray.ext
          exact Array.toList_inj.1 hns8.1
      rw [hn0] at hc8
      have Hb := Lib.hid hO8.world
      clear hR8 hns8 hn0 hO8 hb8 Ha7
      rw [hnl]
      clear hnl
      go_wp2_with fail
      go_ret
      exact ⟨rfl, Hb.out⟩
end Go.Proofs.Ytmjeanbbhacnaaa
