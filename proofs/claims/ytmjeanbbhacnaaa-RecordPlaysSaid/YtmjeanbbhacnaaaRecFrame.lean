/- The walks of Frame and one. No condition but that a text is no longer than Go lets one be. -/
import Derived.Test.YtmjeanbbhacnaaaRecOne
import Derived.Deep.RegionHeld3
import Derived.Deep.DeepCutAuto
import Derived.Deep.DrawnRows
namespace Go.Proofs.Ytmjeanbbhacnaaa
open Go.RowKit
attribute [local go_sem ↓] Go.wp_at_zero Go.wp_at_succ
/-- A text's frame. -/
def frameL (s : List UInt8) : List UInt8 := fB4 (BitVec.ofNat 32 s.length) ++ (fB4 (CrcM.more (CrcM.sum (fB4 (BitVec.ofNat 32 s.length))) s) ++ s)
theorem frameL_length (s : List UInt8) : (frameL s).length = s.length + 8 := by unfold frameL; simp [fB4_length]; omega
theorem U_nat (x : BitVec 32) : U x = (x.toNat : Int) := by unfold U; rfl
theorem U_small (n : Nat) (h : n < 4294967296) : (n : Int) = U (BitVec.ofNat 32 n) := by unfold U; rw [BitVec.toNat_ofNat, Nat.mod_eq_of_lt h]
set_option maxRecDepth 100000 in
theorem frame_any (s : ByteArray) (hs : s.size ≤ 65536) (w : World) : Calls Try.prog 33 #[.string s] w fun e w' => e = .returned (.tuple #[.string ⟨(frameL s.data.toList).toArray⟩, .bool true]) ∧ Below w.heap.size w w' := by
  obtain ⟨L, hL⟩ : ∃ L : ByteArray, L = ⟨(fB4 (BitVec.ofNat 32 s.size)).toArray⟩ := ⟨_, rfl⟩
  have hf : ∀ w, Calls Try.prog 61 #[.int .u32 (s.size : Int)] w fun e w' => e = .returned (.string L) ∧ Below w.heap.size w w' := fun w => by
    rw [U_small s.size (by omega), hL]; exact four_any _ w
  obtain ⟨x, hx⟩ : ∃ x, x = CrcM.sum L.data.toList := ⟨_, rfl⟩
  have hsum : ∀ w, Calls Try.prog 63 #[.string L] w fun e w' => e = .returned (.int .u32 (U x)) ∧ Below w.heap.size w w' := fun w => by
    rw [hx]; exact sum_int L (by rw [hL]; show (fB4 _).toArray.size ≤ _; rw [List.size_toArray, fB4_length]; unfold maxLen; omega) w
  obtain ⟨y, hy⟩ : ∃ y, y = CrcM.more x s.data.toList := ⟨_, rfl⟩
  have hmore : ∀ w, Calls Try.prog 62 #[.int .u32 (U x), .string s] w fun e w' => e = .returned (.int .u32 (U y)) ∧ Below w.heap.size w w' := fun w => by
    rw [hy]; exact more_int _ s (by unfold maxLen; omega) x rfl w
  obtain ⟨Y, hY⟩ : ∃ Y : ByteArray, Y = ⟨(fB4 y).toArray⟩ := ⟨_, rfl⟩
  have hf2 : ∀ w, Calls Try.prog 61 #[.int .u32 (U y)] w fun e w' => e = .returned (.string Y) ∧ Below w.heap.size w w' := fun w => by rw [hY]; exact four_any _ w
  have hall : L ++ Y ++ s = ⟨(frameL s.data.toList).toArray⟩ := by
    have hlen : s.data.toList.length = s.size := by rw [Array.length_toList]; rfl
    apply ByteArray.ext
    have e1 : x = CrcM.sum (fB4 (BitVec.ofNat 32 s.size)) := by rw [hx, hL]
    simp [hL, hY, hy, e1, frameL, hlen]
  rw [← hall]
  have hLs : (L.size : Int) ≤ 4 := by
    have : L.size = 4 := by rw [hL]; show (fB4 _).toArray.size = 4; rw [List.size_toArray, fB4_length]
    omega
  have hYs : (Y.size : Int) ≤ 4 := by
    have : Y.size = 4 := by rw [hY]; show (fB4 _).toArray.size = 4; rw [List.size_toArray, fB4_length]
    omega
  have hLY : ((L ++ Y).size : Int) ≤ 8 := by rw [ByteArray.size_append]; omega
  have Hf := Lib.hid (And.intro hf (And.intro hsum (And.intro hmore hf2)))
  clear hf hsum hmore hf2 hall hx hy hY hL
  go_enter Try.func33, Try.ntmps33
  go_wp2_with fail
  refine (Hf.out.1 _).mono ?_
  rintro e w1 ⟨rfl, hb1⟩
  go_wp2_with fail
  refine (Hf.out.2.1 _).mono ?_
  rintro e w2 ⟨rfl, hb2⟩
  go_wp2_with fail
  refine (Hf.out.2.2.1 _).mono ?_
  rintro e w3 ⟨rfl, hb3⟩
  go_wp2_with fail
  refine (Hf.out.2.2.2 _).mono ?_
  rintro e w4 ⟨rfl, hb4⟩
  go_wp2_with fail
  go_ret2
  exact ⟨rfl, ((hb1.trans (hb2.mono hb1.size)).trans (hb3.mono (Nat.le_trans hb1.size hb2.size))).trans (hb4.mono (Nat.le_trans hb1.size (Nat.le_trans hb2.size hb3.size)))⟩
set_option maxRecDepth 100000 in
theorem frame_long (s : ByteArray) (hs : (65536 : Int) < s.size) (w : World) : Calls Try.prog 33 #[.string s] w fun e w' => e = .returned (.tuple #[.string ⟨#[]⟩, .bool false]) ∧ w = w' := by
  go_enter Try.func33, Try.ntmps33
  go_wp2_with fail
  go_ret2
  exact ⟨rfl, rfl⟩
/-- The text of the frame that bytes begin with. -/
def oneL (l : List UInt8) : Option (List UInt8) :=
  if l.length < 8 then none
  else if 65536 < (num4 l).toNat ∨ l.length - 8 < (num4 l).toNat then none
  else if CrcM.more (CrcM.sum (l.take 4)) ((l.drop 8).take (num4 l).toNat) = num4 (l.drop 4) then some ((l.drop 8).take (num4 l).toNat) else none
set_option maxRecDepth 100000 in
theorem one_any (s : ByteArray) (hs : s.size ≤ 281474976710656) (w : World) : Calls Try.prog 66 #[.string s] w fun e w' => ∃ X b, e = .returned (.tuple #[.string X, .bool b]) ∧ (b = (oneL s.data.toList).isSome ∧ ∀ t, oneL s.data.toList = some t → X = ⟨t.toArray⟩) ∧ Below w.heap.size w w' := by
  have hlen : s.data.toList.length = s.size := by rw [Array.length_toList]; rfl
  by_cases h8 : (s.size : Int) < 8
  · have ho : oneL s.data.toList = none := by unfold oneL; rw [if_pos (by omega)]
    rw [ho]
    go_enter Try.func66, Try.ntmps66
    go_wp2_with fail
    go_ret2
    exact ⟨_, _, rfl, ⟨rfl, fun t ht => by cases ht⟩, Below.refl _ _⟩
  · obtain ⟨n, hn⟩ : ∃ n : Nat, n = (num4 s.data.toList).toNat := ⟨_, rfl⟩
    have hnb : (n : Int) < 4294967296 := by have := (num4 s.data.toList).isLt; omega
    have hn0 : (0 : Int) ≤ n := by omega
    have hnum : ∀ w, Calls Try.prog 84 #[.string s] w fun e w' => e = .returned (.int .u32 (n : Int)) ∧ Below w.heap.size w w' := fun w => by
      rw [hn, ← U_nat]; exact number_any s (by omega) w
    have Hnum := Lib.hid hnum
    have hs8 : (8 : Int) ≤ s.size := by omega
    have hsb : (s.size : Int) ≤ 281474976710656 := by omega
    by_cases hbig : (65536 : Int) < n
    · have ho : oneL s.data.toList = none := by unfold oneL; rw [if_neg (by omega), if_pos (by omega)]
      rw [ho]
      clear hnum hn ho
      go_enter Try.func66, Try.ntmps66
      go_wp2_with fail
      refine (Hnum.out _).mono ?_
      rintro e w1 ⟨rfl, hb1⟩
      go_wp2_with fail
      go_ret2
      exact ⟨_, _, rfl, ⟨rfl, fun t ht => by cases ht⟩, hb1⟩
    · by_cases hover : (s.size : Int) - 8 < n
      · have ho : oneL s.data.toList = none := by unfold oneL; rw [if_neg (by omega), if_pos (by omega)]
        rw [ho]
        clear hnum hn ho
        go_enter Try.func66, Try.ntmps66
        go_wp2_with fail
        refine (Hnum.out _).mono ?_
        rintro e w1 ⟨rfl, hb1⟩
        go_wp2_with fail
        go_ret2
        exact ⟨_, _, rfl, ⟨rfl, fun t ht => by cases ht⟩, hb1⟩
      · have Hn := Lib.hid hn
        have Hlen := Lib.hid hlen
        clear hnum hn hlen
        have Hover := Lib.hid hover
        clear hover
        go_enter Try.func66, Try.ntmps66
        go_wp2_with fail
        refine (Hnum.out _).mono ?_
        rintro e w1 ⟨rfl, hb1⟩
        go_upto_region 4 with fail
        go_cut [21] (fun v wx => v = .bool false ∧ wx = w1)
        case first =>
          have hover := Hover.out
          go_wp2_with fail
          go_meet
          refine ⟨?_, rfl⟩
          rw [decide_eq_false (by omega), decide_eq_false (by omega)]
          rfl
        case rest =>
          obtain ⟨rfl, rfl⟩ := hcut
          obtain ⟨m, hm⟩ : ∃ m : Nat, (8 : Int) + (n : Int) = (m : Int) := ⟨8 + n, by omega⟩
          have hm8 : (8 : Int) ≤ (m : Int) := by omega
          have hms : (m : Int) ≤ (s.size : Int) := by have := Hover.out; omega
          obtain ⟨x, hx⟩ : ∃ x, x = CrcM.sum (s.extract 0 4).data.toList := ⟨_, rfl⟩
          have hS : ∀ w, Calls Try.prog 63 #[.string (s.extract 0 4)] w fun e w' => e = .returned (.int .u32 (U x)) ∧ Below w.heap.size w w' := fun w => by
            rw [hx]; exact sum_int _ (by unfold maxLen; simp; omega) w
          obtain ⟨y, hy⟩ : ∃ y, y = CrcM.more x (s.extract 8 m).data.toList := ⟨_, rfl⟩
          have hM : ∀ w, Calls Try.prog 62 #[.int .u32 (U x), .string (s.extract 8 m)] w fun e w' => e = .returned (.int .u32 (U y)) ∧ Below w.heap.size w w' := fun w => by
            rw [hy]; exact more_int _ _ (by unfold maxLen; simp; omega) x rfl w
          obtain ⟨z, hz⟩ : ∃ z, z = num4 (s.extract 4 s.size).data.toList := ⟨_, rfl⟩
          have hN : ∀ w, Calls Try.prog 84 #[.string (s.extract 4 s.size)] w fun e w' => e = .returned (.int .u32 (U z)) ∧ Below w.heap.size w w' := fun w => by
            rw [hz]; exact number_any _ (by simp; omega) w
          have HC := Lib.hid (And.intro hS (And.intro hM hN))
          have HE := Lib.hid (And.intro hx (And.intro hy hz))
          have hK : ∀ wx wy : World, Below wc.heap.size wc wx → Below wx.heap.size wx wy → Below wc.heap.size wc wy := fun wx wy h1 h2 => h1.trans (h2.mono h1.size)
          have HK := Lib.hid hK
          clear hS hM hN hx hy hz hK
          have h4 : (4 : Int) ≤ (s.size : Int) := by omega
          have HQ := Lib.hid (And.intro hs (And.intro hnb (And.intro hs8 (And.intro hbig (And.intro hm (And.intro hm8 hms))))))
          go_upto_region 7 with fail
          clear hs hnb hn0 hs8 hsb h8 hbig hm hm8 hms
          go_cut [2, 3] (fun v b wx => v = .string (s.extract 8 m) ∧ b = .bool (U y == U z) ∧ Below wc.heap.size wc wx)
          case first =>
            have hS0 : Below wc.heap.size wc wc.drew := (Below.refl _ _).drew
            go_region_held3 (fun w' => Below wc.heap.size wc w') (first | assumption | exact HK.out _ _ (by assumption) hbx) (first | (go_at_call 63; ((with_reducible refine (HC.out.1 _).mono ?_); rintro e wx ⟨rfl, hbx⟩)) | (go_at_call 62; ((with_reducible refine (HC.out.2.1 _).mono ?_); rintro e wx ⟨rfl, hbx⟩)) | (go_at_call 84; ((with_reducible refine (HC.out.2.2 _).mono ?_); rintro e wx ⟨rfl, hbx⟩)))
            all_goals rename_i hS
            all_goals go_wp2_with fail
            all_goals go_meet
            all_goals exact ⟨rfl, rfl, hS⟩
          case rest =>
            obtain ⟨rfl, rfl, hb2⟩ := hcut
            go_wp2_with fail
            go_ret2
            refine ⟨_, _, rfl, ?_, hb1.trans (hb2.mono hb1.size)⟩
            obtain ⟨hs, hnb, hs8, hbig, hm, hm8, hms⟩ := HQ.out
            obtain ⟨hx, hy, hz⟩ := HE.out
            have hlen := Hlen.out
            have hn := Hn.out
            have e1 : (s.extract 0 4).data.toList = s.data.toList.take 4 := by simp
            have e2 : (s.extract 8 m).data.toList = (s.data.toList.drop 8).take n := by
              simp; congr 1; omega
            have e3 : (s.extract 4 s.size).data.toList = s.data.toList.drop 4 := by
              simp only [ByteArray.data_extract, Array.toList_extract, List.extract_eq_take_drop]
              rw [List.take_of_length_le (by rw [List.length_drop, hlen]; exact Nat.le_refl _)]
            rw [e1] at hx
            rw [e2, hx] at hy
            rw [e3] at hz
            have ho : oneL s.data.toList = if y = z then some ((s.data.toList.drop 8).take n) else none := by
              unfold oneL
              rw [if_neg (by omega), if_neg (by omega), ← hn, ← hy, ← hz]
            rw [ho, U_eq]
            by_cases hyz : y = z
            · rw [if_pos hyz]
              refine ⟨by simp [hyz], fun t ht => ?_⟩
              simp only [Option.some.injEq] at ht
              rw [← ht, ← e2]
            · rw [if_neg hyz]
              exact ⟨by simp [hyz], fun t ht => by cases ht⟩
end Go.Proofs.Ytmjeanbbhacnaaa
