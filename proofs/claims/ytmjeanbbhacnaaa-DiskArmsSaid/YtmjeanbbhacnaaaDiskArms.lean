/- The walk of the law DiskArms. No condition. -/
import Derived.Test.YtmjeanbbhacnaaaDiskEx
namespace Go.Proofs.Ytmjeanbbhacnaaa
open Go.RowKit
/-- The file behind j appends. -/
def armF (j : Nat) : List Fi := if j = 0 then [] else [⟨⟨#[102]⟩, List.replicate j 120, 0⟩]
def armSt (k i : Nat) : St := ⟨armF (min i k), 1000, (k : Int) - min i k, 0, decide (k < i)⟩
theorem armF_total (j : Nat) : ftotal (armF j) = j := by
  unfold armF; split
  · simp [ftotal]; omega
  · simp [ftotal]
theorem armF_lay (j : Nat) : flay (armF j) ⟨#[102]⟩ [120] = armF (j + 1) := by
  unfold armF
  by_cases h : j = 0
  · subst h; rfl
  · rw [if_neg h, if_neg (by omega)]
    simp [flay, fget, fput, List.replicate_succ']
theorem armF_read (j : Nat) : (rdText (armF j) ⟨#[102]⟩).size = j := by
  unfold armF
  by_cases h : j = 0
  · subst h; rfl
  · rw [if_neg h]
    simp [rdText, fget, ByteArray.size]
theorem arm_step (k i : Nat) (hk : k ≤ 20) : St.append (armSt k i) ⟨#[102]⟩ [120] = (armSt k (i + 1), if i < k then 0 else 19) := by
  unfold armSt
  rcases Nat.lt_trichotomy i k with h | h | h
  · rw [if_pos h, decide_eq_false (by omega : ¬ k < i), decide_eq_false (by omega : ¬ k < i + 1), Nat.min_eq_left (by omega), Nat.min_eq_left (by omega)]
    rw [St.append_dec (by omega) (by rw [armF_total]; simp; omega), armF_lay]
    simp only [Prod.mk.injEq, St.mk.injEq, and_true, true_and]
    omega
  · subst h
    rw [if_neg (by omega), decide_eq_false (by omega : ¬ i < i), decide_eq_true (by omega : i < i + 1), Nat.min_self, Nat.min_eq_right (by omega)]
    rw [show (i : Int) - (i : Nat) = 0 by omega, St.append_crash, tornL_no _ _ _ _ _ (.inr (by unfold tornK; simp only [List.length_cons, List.length_nil]; omega))]
  · rw [if_neg (by omega), decide_eq_true h, decide_eq_true (by omega : k < i + 1), Nat.min_eq_right (by omega), Nat.min_eq_right (by omega)]
    rfl
theorem armSt_start (k : Nat) : armSt k 0 = ⟨[], 1000, max (k : Int) (-1), 0, false⟩ := by
  unfold armSt
  rw [decide_eq_false (by omega), Nat.zero_min, show max (k : Int) (-1) = k by omega]
  simp [armF]
set_option maxRecDepth 100000 in
set_option maxHeartbeats 1600000 in
theorem arms_walk (a : Int) (h0 : 0 ≤ a) (h1 : a ≤ 255) (w : World) : Calls Try.prog 7 #[.int .u8 a] w fun e w' => e = .returned (.bool true) ∧ Below w.heap.size w w' := by
  have H := Lib.hid (@examples06)
  go_enter Try.func7, Try.ntmps7
  go_wp2_with fail
  refine (H.out w).mono ?_
  rintro e w1 ⟨rfl, hb1⟩
  go_upto_region 5 with fail
  obtain ⟨k, hk⟩ : ∃ k : Nat, (k : Int) = a % 21 := ⟨(a % 21).toNat, by omega⟩
  have hk20 : (k : Int) ≤ 20 := by omega
  have hk0 : (0 : Int) ≤ k := by omega
  rw [← hk]
  have _Hk := Lib.hid hk
  clear hk h0 h1
  go_wp2_with fail
  refine (new_one hb1 1000 (by omega) (by omega)).mono ?_
  rintro e w2 ⟨d, rfl, hO⟩
  clear hb1
  go_wp2_with fail
  refine (arm_one hO k 0 (by omega)).mono ?_
  rintro e w3 ⟨rfl, hO3⟩
  clear hO
  rw [← armSt_start] at hO3
  go_wp2_with fail
  go_loopw [7] (fun i wr => ∃ j : Nat, i = .int .i64 j ∧ (j : Int) ≤ 30 ∧ One w wr d (armSt k j)) (fun i _ => 30 - (intOf i).toNat)
  case atStart => exact ⟨0, rfl, by omega, hO3⟩
  case round =>
    obtain ⟨j, rfl, hj, hOj⟩ := hrel
    clear hO3
    have hj0 : (0 : Int) ≤ j := by omega
    have hstep := arm_step k j (by omega)
    by_cases hlt : (j : Int) < 30
    · by_cases hjk : (j : Int) < (k : Int)
      · rw [if_pos (by omega)] at hstep
        go_wp2_with fail
        refine (append_one hOj ⟨#[102]⟩ ⟨#[120]⟩ (by decide) hstep).mono ?_
        rintro e w4 ⟨rfl, hO4⟩
        go_wp2_with fail
        refine (crashed_one hO4).mono ?_
        rintro e w5 ⟨rfl, rfl⟩
        rw [show (armSt k (j + 1)).dead = false from decide_eq_false (by omega)]
        go_wp2_with fail
        refine ⟨⟨j + 1, by go_num, by omega, hO4⟩, ?_⟩
        simp [intOf]; omega
      · rw [if_neg (by omega)] at hstep
        go_wp2_with fail
        refine (append_one hOj ⟨#[102]⟩ ⟨#[120]⟩ (by decide) hstep).mono ?_
        rintro e w4 ⟨rfl, hO4⟩
        go_wp2_with fail
        refine (crashed_one hO4).mono ?_
        rintro e w5 ⟨rfl, rfl⟩
        rw [show (armSt k (j + 1)).dead = true from decide_eq_true (by omega)]
        go_wp2_with fail
        refine ⟨⟨j + 1, by go_num, by omega, hO4⟩, ?_⟩
        simp [intOf]; omega
    · have hmin : min j k = k := by omega
      have hlen : (rdText (armSt k j).files ⟨#[102]⟩).size = k := by show (rdText (armF (min j k)) _).size = k; rw [hmin, armF_read]
      obtain ⟨X, hX⟩ : ∃ X, X = rdText (armSt k j).files ⟨#[102]⟩ := ⟨_, rfl⟩
      have hread := read_one hOj ⟨#[102]⟩
      rw [← hX] at hread hlen
      have Hlen := Lib.hid hlen
      clear hX hlen hstep
      go_wp2_with fail
      refine hread.mono ?_
      rintro e w4 ⟨rfl, rfl⟩
      clear hread
      have hlen : (X.size : Int) = k := by rw [Hlen.out]
      go_wp2_with fail
      go_ret
      exact ⟨rfl, hOj.world⟩
end Go.Proofs.Ytmjeanbbhacnaaa
