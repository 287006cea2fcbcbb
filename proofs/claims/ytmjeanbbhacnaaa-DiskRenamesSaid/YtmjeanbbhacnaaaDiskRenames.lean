/- The walk of the law DiskRenames. No condition. -/
import Derived.Test.YtmjeanbbhacnaaaDiskKeeps
namespace Go.Proofs.Ytmjeanbbhacnaaa
open Go.RowKit
set_option maxRecDepth 100000 in
set_option maxHeartbeats 1600000 in
theorem renames_walk (s t : ByteArray) (w : World) :
    Calls Try.prog 9 #[.string s, .string t] w fun e w' => e = .returned (.bool true) ∧ Below w.heap.size w w' := by
  have H := Lib.hid (@examples06)
  go_enter Try.func9, Try.ntmps9
  go_wp2_with fail
  refine (H.out w).mono ?_
  rintro e w1 ⟨rfl, hb1⟩
  go_upto_region 4 with fail
  go_cut [0] (fun v wx => ∃ a : ByteArray, v = .string a ∧ a.size ≤ 100 ∧ wx = w1)
  case first =>
    go_wp2_with fail
    all_goals go_meet
    · exact ⟨_, rfl, by simp; omega, rfl⟩
    · exact ⟨_, rfl, by omega, rfl⟩
  case rest =>
    obtain ⟨a, rfl, ha, rfl⟩ := hcut
    go_upto_region 5 with fail
    go_cut [1] (fun v wx => ∃ b : ByteArray, v = .string b ∧ b.size ≤ 100 ∧ wx = wc)
    case first =>
      go_wp2_with fail
      all_goals go_meet
      · exact ⟨_, rfl, by simp; omega, rfl⟩
      · exact ⟨_, rfl, by omega, rfl⟩
    case rest =>
      obtain ⟨b, rfl, hb, rfl⟩ := hcut
      go_wp2_with fail
      refine (new_one hb1 1000 (by omega) (by omega)).mono ?_
      rintro e w2 ⟨d, rfl, hO⟩
      clear hb1
      have las := list_size a
      have lbs := list_size b
      have q1 : St.append ⟨[], 1000, -1, 0, false⟩ ⟨#[97]⟩ a.data.toList = (⟨[⟨⟨#[97]⟩, a.data.toList, 0⟩], 1000, -1, 0, false⟩, 0) := by rw [St.append_ok (by simp [ftotal]; omega), flay_zero]
      have q2 : St.deed ⟨[⟨⟨#[97]⟩, a.data.toList, 0⟩], 1000, -1, 0, false⟩ ⟨#[97]⟩ (fsync ⟨#[97]⟩) = (⟨[⟨⟨#[97]⟩, a.data.toList, a.size⟩], 1000, -1, 0, false⟩, 0) := by rw [St.deed_ok (by simp [fget]), fsync_one, las]
      have q3 : St.append ⟨[⟨⟨#[97]⟩, a.data.toList, a.size⟩], 1000, -1, 0, false⟩ ⟨#[97]⟩ b.data.toList = (⟨[⟨⟨#[97]⟩, a.data.toList ++ b.data.toList, a.size⟩], 1000, -1, 0, false⟩, 0) := by
        rw [St.append_ok (by rw [ftotal_one]; omega), flay_one]
      have q4 : St.append ⟨[⟨⟨#[97]⟩, a.data.toList ++ b.data.toList, a.size⟩], 1000, -1, 0, false⟩ ⟨#[98]⟩ [111, 108, 100] = (⟨[⟨⟨#[97]⟩, a.data.toList ++ b.data.toList, a.size⟩, ⟨⟨#[98]⟩, [111, 108, 100], 0⟩], 1000, -1, 0, false⟩, 0) := by
        rw [St.append_ok (by rw [ftotal_one]; simp only [List.length_append, las, lbs, List.length_cons, List.length_nil]; omega)]
        simp [flay, fget, fput]
      have q5 : St.deed ⟨[⟨⟨#[97]⟩, a.data.toList ++ b.data.toList, a.size⟩, ⟨⟨#[98]⟩, [111, 108, 100], 0⟩], 1000, -1, 0, false⟩ ⟨#[97]⟩ (frename ⟨#[97]⟩ ⟨#[98]⟩) = (⟨[⟨⟨#[98]⟩, a.data.toList ++ b.data.toList, a.size⟩], 1000, -1, 0, false⟩, 0) := by
        rw [St.deed_ok (by simp [fget])]
        simp [frename, fget, fdel, fput]
      have q6 : St.deed ⟨[⟨⟨#[98]⟩, a.data.toList ++ b.data.toList, a.size⟩], 1000, -1, 0, false⟩ ⟨#[97]⟩ (frename ⟨#[97]⟩ ⟨#[98]⟩) = (⟨[⟨⟨#[98]⟩, a.data.toList ++ b.data.toList, a.size⟩], 1000, -1, 0, false⟩, 6) := St.deed_none (by simp [fget])
      have q7 : [(⟨⟨#[98]⟩, a.data.toList ++ b.data.toList, a.size⟩ : Fi)].map (flost 0) = [⟨⟨#[98]⟩, a.data.toList, a.size⟩] := by
        have e1 : keepN 0 ⟨⟨#[98]⟩, a.data.toList ++ b.data.toList, a.size⟩ = a.size := by unfold keepN; simp
        simp only [List.map_cons, List.map_nil, flost, e1]
        rw [← las, List.take_left]
      have q8 : rdText [⟨⟨#[98]⟩, a.data.toList ++ b.data.toList, a.size⟩] ⟨#[98]⟩ = a ++ b ∧ rdThere [⟨⟨#[98]⟩, a.data.toList ++ b.data.toList, a.size⟩] ⟨#[98]⟩ = true := by
        refine ⟨?_, (rd_one _ _ _).2⟩
        rw [(rd_one _ _ _).1]
        apply ByteArray.ext
        simp
      have q9 : rdThere [⟨⟨#[98]⟩, a.data.toList ++ b.data.toList, a.size⟩] ⟨#[97]⟩ = false := by simp [rdThere, fget]
      have q10 : rdText ([(⟨⟨#[98]⟩, a.data.toList ++ b.data.toList, a.size⟩ : Fi)].map (flost 0)) ⟨#[98]⟩ = a ∧ rdThere ([(⟨⟨#[98]⟩, a.data.toList ++ b.data.toList, a.size⟩ : Fi)].map (flost 0)) ⟨#[98]⟩ = true := by
        rw [q7, (rd_one _ _ _).1, (rd_one _ _ _).2]
        refine ⟨?_, rfl⟩
        apply ByteArray.ext
        simp
      have q11 : ((ftotal [⟨⟨#[98]⟩, a.data.toList ++ b.data.toList, a.size⟩] : Nat) : Int) = (a.size : Int) + (b.size : Int) := by rw [ftotal_one, List.length_append, las, lbs]; omega
      have Q := Lib.hid (And.intro q1 (And.intro q2 (And.intro q3 (And.intro q4 (And.intro q5 (And.intro q6 (And.intro q8 (And.intro q9 (And.intro q10 q11)))))))))
      clear q1 q2 q3 q4 q5 q6 q7 q8 q9 q10 q11 las lbs
      go_wp2_with fail
      refine (append_one hO ⟨#[97]⟩ a (by omega) Q.out.1).mono ?_
      rintro e w3 ⟨rfl, hO3⟩
      clear hO
      go_wp2_with fail
      refine (sync_one hO3 ⟨#[97]⟩ Q.out.2.1).mono ?_
      rintro e w4 ⟨rfl, hO4⟩
      clear hO3
      go_wp2_with fail
      refine (append_one hO4 ⟨#[97]⟩ b (by omega) Q.out.2.2.1).mono ?_
      rintro e w5 ⟨rfl, hO5⟩
      clear hO4
      go_wp2_with fail
      refine (append_one hO5 ⟨#[98]⟩ ⟨#[111, 108, 100]⟩ (by decide) Q.out.2.2.2.1).mono ?_
      rintro e w6 ⟨rfl, hO6⟩
      clear hO5
      go_wp2_with fail
      refine (rename_one hO6 ⟨#[97]⟩ ⟨#[98]⟩ Q.out.2.2.2.2.1).mono ?_
      rintro e w7 ⟨rfl, hO7⟩
      clear hO6
      go_wp2_with fail
      have hr1 := read_one hO7 ⟨#[98]⟩
      rw [Q.out.2.2.2.2.2.2.1.1, Q.out.2.2.2.2.2.2.1.2] at hr1
      have hr2 := read_one hO7 ⟨#[97]⟩
      rw [Q.out.2.2.2.2.2.2.2.1] at hr2
      obtain ⟨X, hX⟩ : ∃ X, X = rdText (⟨[⟨⟨#[98]⟩, a.data.toList ++ b.data.toList, a.size⟩], 1000, -1, 0, false⟩ : St).files ⟨#[97]⟩ := ⟨_, rfl⟩
      rw [← hX] at hr2
      have hlo := lost_two hO7 0
      have Hr := Lib.hid (And.intro hr1 (And.intro hr2 hlo))
      clear hr1 hr2 hlo hX hO7
      refine Hr.out.1.mono ?_
      rintro e w8 ⟨rfl, rfl⟩
      go_wp2_with fail
      refine Hr.out.2.1.mono ?_
      rintro e w9 ⟨rfl, rfl⟩
      go_wp2_with fail
      refine Hr.out.2.2.mono ?_
      rintro e w10 ⟨d2, rfl, hT⟩
      clear Hr
      go_wp2_with fail
      have hr3 := read_one hT.swap.fst ⟨#[98]⟩
      rw [Q.out.2.2.2.2.2.2.2.2.1.1, Q.out.2.2.2.2.2.2.2.2.1.2] at hr3
      refine hr3.mono ?_
      rintro e w11 ⟨rfl, rfl⟩
      clear hr3
      have hren := rename_two hT ⟨#[97]⟩ ⟨#[98]⟩ Q.out.2.2.2.2.2.1
      have Hren := Lib.hid hren
      clear hren hT
      go_wp2_with fail
      refine Hren.out.mono ?_
      rintro e w12 ⟨rfl, hT2⟩
      clear Hren
      have huse := used_two hT2
      rw [Q.out.2.2.2.2.2.2.2.2.2] at huse
      have Huse := Lib.hid huse
      clear huse hT2
      go_wp2_with fail
      refine Huse.out.mono ?_
      rintro e w13 ⟨rfl, hT3⟩
      go_wp2_with fail
      go_ret
      exact ⟨rfl, hT3.fst.world⟩
end Go.Proofs.Ytmjeanbbhacnaaa
