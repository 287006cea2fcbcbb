/- The walk of the law DiskKeeps. No condition. -/
import Derived.Test.YtmjeanbbhacnaaaDiskEx
import Derived.Deep.DeepCutAuto
namespace Go.Proofs.Ytmjeanbbhacnaaa
open Go.RowKit
theorem fsync_one (n : ByteArray) (s : List UInt8) (k : Nat) : fsync n [⟨n, s, k⟩] = [⟨n, s, s.length⟩] := by simp [fsync, fget, fput]
theorem flay_one (n : ByteArray) (s t : List UInt8) (k : Nat) : flay [⟨n, s, k⟩] n t = [⟨n, s ++ t, k⟩] := by simp [flay, fget, fput]
theorem flay_zero (n : ByteArray) (s : List UInt8) : flay [] n s = [⟨n, s, 0⟩] := by simp [flay, fget, fput]
theorem rd_one (n : ByteArray) (s : List UInt8) (k : Nat) : rdText [⟨n, s, k⟩] n = ⟨s.toArray⟩ ∧ rdThere [⟨n, s, k⟩] n = true := by simp [rdText, rdThere, fget]
theorem ftotal_one (n : ByteArray) (s : List UInt8) (k : Nat) : ftotal [⟨n, s, k⟩] = s.length := by simp [ftotal]
theorem cut_size (s : ByteArray) (n : Nat) (h : n ≤ s.size) : (s.extract 0 n).size = n := by simp; omega
theorem cut_list (s : ByteArray) (n : Nat) : (s.extract 0 n).data.toList = s.data.toList.take n := by simp
theorem list_size (s : ByteArray) : s.data.toList.length = s.size := by rw [Array.length_toList]; rfl
set_option maxRecDepth 100000 in
set_option maxHeartbeats 1600000 in
theorem keeps_walk (s t : ByteArray) (keep torn : Int) (hk : -9223372036854775808 ≤ keep ∧ keep ≤ 9223372036854775807) (ht : -9223372036854775808 ≤ torn ∧ torn ≤ 9223372036854775807) (w : World) :
    Calls Try.prog 8 #[.string s, .string t, .int .i64 keep, .int .i64 torn] w fun e w' => e = .returned (.bool true) ∧ Below w.heap.size w w' := by
  have H := Lib.hid (@examples06)
  go_enter Try.func8, Try.ntmps8
  go_wp2_with fail
  refine (H.out w).mono ?_
  rintro e w1 ⟨rfl, hb1⟩
  go_upto_region 4 with fail
  go_cut [0] (fun v wx => ∃ a : ByteArray, v = .string a ∧ a.size ≤ 100 ∧ wx = w1)
  case first =>
    go_wp2_with fail
    all_goals go_meet
    · exact ⟨_, rfl, by simp; omega, rfl⟩
    · exact ⟨_, rfl, by omega, rfl⟩
  case rest =>
    obtain ⟨a, rfl, ha, rfl⟩ := hcut
    go_upto_region 5 with fail
    go_cut [1] (fun v wx => ∃ b : ByteArray, v = .string b ∧ b.size ≤ 100 ∧ wx = wc)
    case first =>
      go_wp2_with fail
      all_goals go_meet
      · exact ⟨_, rfl, by simp; omega, rfl⟩
      · exact ⟨_, rfl, by omega, rfl⟩
    case rest =>
      obtain ⟨b, rfl, hb, rfl⟩ := hcut
      go_wp2_with fail
      refine (new_one hb1 1000 (by omega) (by omega)).mono ?_
      rintro e w2 ⟨d, rfl, hO⟩
      clear hb1
      have las := list_size a
      have lbs := list_size b
      have q1 : St.append ⟨[], 1000, -1, 0, false⟩ ⟨#[102]⟩ a.data.toList = (⟨[⟨⟨#[102]⟩, a.data.toList, 0⟩], 1000, -1, 0, false⟩, 0) := by rw [St.append_ok (by simp [ftotal]; omega), flay_zero]
      have q2 : St.deed ⟨[⟨⟨#[102]⟩, a.data.toList, 0⟩], 1000, -1, 0, false⟩ ⟨#[102]⟩ (fsync ⟨#[102]⟩) = (⟨[⟨⟨#[102]⟩, a.data.toList, a.size⟩], 1000, -1, 0, false⟩, 0) := by rw [St.deed_ok (by simp [fget]), fsync_one, las]
      obtain ⟨n, hn⟩ : ∃ n, n = tornK torn b.size := ⟨_, rfl⟩
      have hnb : n ≤ b.size := by rw [hn]; exact tornK_le _ _
      have q3 : St.append ⟨[⟨⟨#[102]⟩, a.data.toList, a.size⟩], 1000, 0, torn, false⟩ ⟨#[102]⟩ b.data.toList = (⟨[⟨⟨#[102]⟩, a.data.toList ++ b.data.toList.take n, a.size⟩], 1000, 0, torn, true⟩, 19) := by
        rw [St.append_crash, ftotal_one, decide_eq_true (by omega), lbs, ← hn]
        by_cases h0 : 0 < n
        · rw [tornL_yes _ _ _ _ h0, flay_one]
        · rw [tornL_no _ _ _ _ _ (.inr h0), show n = 0 by omega]; simp
      have q4 : ∀ u, St.append ⟨[⟨⟨#[102]⟩, a.data.toList ++ b.data.toList.take n, a.size⟩], 1000, 0, torn, true⟩ ⟨#[102]⟩ u = (⟨[⟨⟨#[102]⟩, a.data.toList ++ b.data.toList.take n, a.size⟩], 1000, 0, torn, true⟩, 19) := fun u => St.append_dead
      obtain ⟨m, hm⟩ : ∃ m, m = min keep.toNat n := ⟨_, rfl⟩
      have q5 : [(⟨⟨#[102]⟩, a.data.toList ++ b.data.toList.take n, a.size⟩ : Fi)].map (flost keep) = [⟨⟨#[102]⟩, a.data.toList ++ b.data.toList.take m, a.size + m⟩] := by
        have e1 : keepN keep ⟨⟨#[102]⟩, a.data.toList ++ b.data.toList.take n, a.size⟩ = a.size + m := by
          unfold keepN; simp only [List.length_append, List.length_take, las, lbs]; omega
        simp only [List.map_cons, List.map_nil, flost, e1]
        rw [List.take_append, List.take_of_length_le (by omega), las, Nat.add_sub_cancel_left, List.take_take, Nat.min_eq_left (by omega)]
      have q6 : ∀ x : List Fi, x = [⟨⟨#[102]⟩, a.data.toList ++ b.data.toList.take m, a.size + m⟩] → (St.append ⟨x, 1000, -1, 0, false⟩ ⟨#[102]⟩ [120]) = (⟨[⟨⟨#[102]⟩, (a.data.toList ++ b.data.toList.take m) ++ [120], a.size + m⟩], 1000, -1, 0, false⟩, 0) := by
        rintro x rfl
        rw [St.append_ok (by rw [ftotal_one]; simp only [List.length_append, List.length_take, las, lbs, List.length_cons, List.length_nil]; omega), flay_one]
      have Q := Lib.hid (And.intro q1 (And.intro q2 (And.intro q3 (And.intro q4 (And.intro q5 q6)))))
      have hnZ : (n : Int) ≤ (b.size : Int) := by omega
      have hn0 : (0 : Int) ≤ (n : Int) := by omega
      have Hn := Lib.hid hn
      have Hm := Lib.hid hm
      clear q1 q2 q3 q4 q5 q6 las lbs hn hm hnb
      go_wp2_with fail
      refine (append_one hO ⟨#[102]⟩ a (by omega) Q.out.1).mono ?_
      rintro e w3 ⟨rfl, hO3⟩
      clear hO
      go_wp2_with fail
      refine (sync_one hO3 ⟨#[102]⟩ Q.out.2.1).mono ?_
      rintro e w4 ⟨rfl, hO4⟩
      clear hO3
      go_wp2_with fail
      refine (arm_one hO4 0 torn (by omega)).mono ?_
      rintro e w5 ⟨rfl, hO5⟩
      clear hO4
      go_wp2_with fail
      refine (append_one hO5 ⟨#[102]⟩ b (by omega) Q.out.2.2.1).mono ?_
      rintro e w6 ⟨rfl, hO6⟩
      clear hO5
      go_wp2_with fail
      refine (append_one hO6 ⟨#[102]⟩ ⟨#[109, 111, 114, 101]⟩ (by decide) (Q.out.2.2.2.1 _)).mono ?_
      rintro e w7 ⟨rfl, hO7⟩
      clear hO6
      go_wp2_with fail
      refine (lost_two hO7 keep).mono ?_
      rintro e w8 ⟨d2, rfl, hT⟩
      clear hO7
      go_wp2_with fail
      refine (crashed_one hT.fst).mono ?_
      rintro e w9 ⟨rfl, rfl⟩
      go_wp2_with fail
      have hread := read_one hT.swap.fst ⟨#[102]⟩
      have hX : rdText ((⟨[(⟨⟨#[102]⟩, a.data.toList ++ b.data.toList.take n, a.size⟩ : Fi)].map (flost keep), 1000, -1, 0, false⟩ : St)).files ⟨#[102]⟩ = a ++ b.extract 0 m ∧ rdThere ((⟨[(⟨⟨#[102]⟩, a.data.toList ++ b.data.toList.take n, a.size⟩ : Fi)].map (flost keep), 1000, -1, 0, false⟩ : St)).files ⟨#[102]⟩ = true := by
        simp only
        rw [Q.out.2.2.2.2.1, (rd_one _ _ _).1, (rd_one _ _ _).2]
        refine ⟨?_, rfl⟩
        apply ByteArray.ext
        simp
      rw [hX.1, hX.2] at hread
      clear hX
      obtain ⟨X, hX⟩ : ∃ X, X = a ++ b.extract 0 m := ⟨_, rfl⟩
      rw [← hX] at hread
      have HX := Lib.hid hX
      clear hX
      refine hread.mono ?_
      rintro e w9 ⟨rfl, rfl⟩
      clear hread
      go_upto_region 18 with fail
      go_cut [19] (fun v wx => v = .int .i64 n ∧ wx = w8)
      case first =>
        go_wp2_with fail
        all_goals go_meet
        all_goals (refine ⟨?_, rfl⟩; rw [Hn.out]; unfold tornK; apply congrArg; omega)
      case rest =>
        obtain ⟨rfl, rfl⟩ := hcut
        have hcr := crashed_one hT.swap.fst
        have hap := append_two hT.swap ⟨#[102]⟩ ⟨#[120]⟩ (by decide) (Q.out.2.2.2.2.2 _ Q.out.2.2.2.2.1)
        have Hcr := Lib.hid (And.intro hcr hap)
        clear hcr hap hT
        by_cases hA : keep < 0
        · have hX : X = a ++ b.extract 0 0 := by rw [HX.out, Hm.out, show min keep.toNat n = 0 by omega]
          go_wp2_with fail
          all_goals (refine Hcr.out.1.mono ?_; rintro e w10 ⟨rfl, rfl⟩; go_wp2_with fail; refine Hcr.out.2.mono ?_; rintro e w11 ⟨rfl, hT2⟩; go_wp2_with fail; go_ret; exact ⟨rfl, hT2.fst.world⟩)
        · obtain ⟨kn, rfl⟩ : ∃ kn : Nat, keep = (kn : Int) := ⟨keep.toNat, by omega⟩
          by_cases hB : (kn : Int) ≤ (n : Int)
          · have hX : X = a ++ b.extract 0 kn := by rw [HX.out, Hm.out, show min ((kn : Int)).toNat n = kn by omega]
            have hk0 : (0 : Int) ≤ (kn : Int) := by omega
            have hkb : (kn : Int) ≤ (b.size : Int) := by omega
            go_wp2_with fail
            all_goals (refine Hcr.out.1.mono ?_; rintro e w10 ⟨rfl, rfl⟩; go_wp2_with fail; refine Hcr.out.2.mono ?_; rintro e w11 ⟨rfl, hT2⟩; go_wp2_with fail; go_ret; exact ⟨rfl, hT2.fst.world⟩)
          · have hX : X = a ++ b.extract 0 n := by rw [HX.out, Hm.out, show min ((kn : Int)).toNat n = n by omega]
            have hk0 : (0 : Int) ≤ (kn : Int) := by omega
            go_wp2_with fail
            all_goals (refine Hcr.out.1.mono ?_; rintro e w10 ⟨rfl, rfl⟩; go_wp2_with fail; refine Hcr.out.2.mono ?_; rintro e w11 ⟨rfl, hT2⟩; go_wp2_with fail; go_ret; exact ⟨rfl, hT2.fst.world⟩)
end Go.Proofs.Ytmjeanbbhacnaaa
