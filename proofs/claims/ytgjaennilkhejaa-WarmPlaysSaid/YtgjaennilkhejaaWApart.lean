/- The walk of the law WarmApart. No condition. -/
import Derived.Test.YtgjaennilkhejaaWOne
import Derived.Laws.StructEq
namespace Go.Proofs.Ytgjaennilkhejaa
open Go.RowKit
attribute [local go_sem ↓] Go.wp_at_zero Go.wp_at_succ
/-- A word's cells in a block. -/
def WBox (w : World) (b : Nat) (k : W4) : Prop := w.heap[b]? = some (.cells #[.int .u64 k.a, .int .u64 k.b, .int .u64 k.c, .int .u64 k.d] 24 (0, 0))
theorem WBox.cells {w : World} {b : Nat} {k : W4} (h : WBox w b k) : w.cell? ⟨b, 0, none⟩ = some (.int .u64 k.a) ∧ w.cell? ⟨b, 1, none⟩ = some (.int .u64 k.b) ∧ w.cell? ⟨b, 2, none⟩ = some (.int .u64 k.c) ∧ w.cell? ⟨b, 3, none⟩ = some (.int .u64 k.d) := by
  refine ⟨?_, ?_, ?_, ?_⟩ <;> (rw [cell_of_row _ _ _ _ _ _ h]; rfl)
theorem WBox.below {w w' : World} {b : Nat} {k : W4} (h : WBox w b k) (hb : Below w.heap.size w w') : WBox w' b k := (hb.block _ (lt_of_block h)).trans h
noncomputable def eqW (k m : W4) : Bool := @decide (k = m) (Classical.propDecidable _)
theorem run_eq_word (k m : W4) (w : World) : (binOp .eql 24 (.agg #[.int .u64 k.a, .int .u64 k.b, .int .u64 k.c, .int .u64 k.d]) (.agg #[.int .u64 m.a, .int .u64 m.b, .int .u64 m.c, .int .u64 m.d])).run Try.prog w = .ok (.bool (eqW k m)) w := by
  obtain ⟨k1, k2, k3, k4⟩ := k
  obtain ⟨m1, m2, m3, m4⟩ := m
  go_simp
  by_cases h1 : k1 = m1
  · by_cases h2 : k2 = m2
    · by_cases h3 : k3 = m3
      · by_cases h4 : k4 = m4
        · simp [h1, h2, h3, h4, eqW]
        · simp [h1, h2, h3, h4, eqW]
      · simp [h1, h2, h3, eqW]
    · simp [h1, h2, eqW]
  · simp [h1, eqW]
theorem slotV_ne {a b : ByteArray} {k m : W4} (h : ¬ (a = b ∧ k = m)) : slotV a k ≠ slotV b m := fun e => h (slotV_inj e)
theorem hasK_eq (f : Fin 4) (v v' : Value) (L : List Ch) (b : Bool) (hb : b = true ↔ v' = v) (h : hasK f v' L = false) : hasK f v' (noteL f v L) = b := by
  cases b with
  | true => rw [hb.1 rfl]; exact noteL_hasK f v L
  | false => rw [hasK_note_other L (fun e => by have := hb.2 e; cases this)]; exact h
theorem bytes_eq (a b : ByteArray) : (a.toList == b.toList) = true ↔ a = b := by rw [← beq_toListBytes]; exact MapKept.bytes_beq a b
set_option maxRecDepth 100000 in
set_option maxHeartbeats 3200000 in
theorem apart_walk (a b : ByteArray) (k m : W4) (w : World) (ha : a.size ≤ maxLen) (ha2 : a.size ≤ 140737488351232) (hb : b.size ≤ maxLen) (hk : k.wf) (hm : m.wf) :
    Calls Try.prog 3 #[.string a, .string b, .agg #[.int .u64 k.a, .int .u64 k.b, .int .u64 k.c, .int .u64 k.d], .agg #[.int .u64 m.a, .int .u64 m.b, .int .u64 m.c, .int .u64 m.d]] w fun e w' => e = .returned (.bool true) ∧ Below w.heap.size w w' := by
  have sak := slot_ok ha hk
  have sam := slot_ok ha hm
  have sbk := slot_ok hb hk
  obtain ⟨W2, hW2⟩ : ∃ W2, W2 = (w.alloc (.cells #[.int .u64 k.a, .int .u64 k.b, .int .u64 k.c, .int .u64 k.d] 24 (0, 0))).alloc (.cells #[.int .u64 m.a, .int .u64 m.b, .int .u64 m.c, .int .u64 m.d] 24 (0, 0)) := ⟨_, rfl⟩
  obtain ⟨o1, o2, hbw⟩ := boxes2 w _ _ _ hW2
  have hbox : ∀ {wx : World} {s : Nat} {L : List Ch}, One W2 wx s L → WBox wx w.heap.size k ∧ WBox wx (w.heap.size + 1) m := fun h => ⟨WBox.below o1 h.world, WBox.below o2 h.world⟩
  have hex := examples11 W2
  have hnew := fun (w1 : World) (hb : Below W2.heap.size W2 w1) => new_any hb
  have hkm := run_eq_word k m
  obtain ⟨p, hp⟩ : ∃ p, p = eqW k m := ⟨_, rfl⟩
  rw [← hp] at hkm
  have hpe : p = true ↔ m = k := by
    rw [hp]; unfold eqW
    by_cases e : k = m
    · simp [e]
    · simp [e, Ne.symm e]
  have HX := Lib.hid (And.intro (@hbox) (And.intro hnew (And.intro hpe (And.intro sak (And.intro sam (And.intro sbk hbw))))))
  have HW2 := Lib.hid hW2
  have Hex := Lib.hid hex
  clear hbox hnew hpe sak sam sbk hp hex hW2 hbw o1 o2 hk hm ha hb
  go_enter Try.func3, Try.ntmps3
  go_upto_region 1 with fail
  rw [← HW2.out]
  go_wp2_with fail
  refine Hex.out.mono ?_
  rintro e w1 ⟨rfl, hb1⟩
  have hn := HX.out.2.1 w1 hb1
  have Hn := Lib.hid hn
  clear hn hb1 Hex
  go_wp2_with fail
  refine Hn.out.mono ?_
  rintro e w2 ⟨s, rfl, h2⟩
  obtain ⟨k0, k1, k2, k3⟩ := (HX.out.1 h2).1.cells
  have hs := slot_one h2 a k HX.out.2.2.2.1 (by simp)
  rw [hasK_nil] at hs
  have Hs := Lib.hid hs
  clear hs h2 Hn
  go_wp2_with fail
  refine Hs.out.mono ?_
  rintro e w3 ⟨rfl, h3⟩
  clear k0 k1 k2 k3
  have hl3 := noteL_length 1 (slotV a k) []
  have hm3 := made_one h3 a (by simp at hl3; omega)
  have Hm := Lib.hid hm3
  clear hm3 h3 Hs
  go_wp2_with fail
  refine Hm.out.mono ?_
  rintro e w4 ⟨rfl, h4⟩
  have hl4 := noteL_length 2 (.string a) (noteL 1 (slotV a k) [])
  have hh := hasAddr_one h4 a
  rw [hasK_note_ne _ _ _ (by decide), hasK_note_ne _ _ _ (by decide), hasK_nil] at hh
  have Hh := Lib.hid hh
  clear hh h4 Hm
  go_wp2_with fail
  refine Hh.out.mono ?_
  rintro e w5 ⟨rfl, h5⟩
  obtain ⟨k0, k1, k2, k3⟩ := (HX.out.1 h5).2.cells
  have hs := hasSlot_one h5 a m HX.out.2.2.2.2.1
  rw [hasK_note_ne _ _ _ (by decide), hasK_eq 1 (slotV a k) (slotV a m) [] p (HX.out.2.2.1.trans ⟨fun e => by rw [e], fun e => (slotV_inj e).2⟩) (hasK_nil _ _)] at hs
  have Hs := Lib.hid hs
  clear hs h5 Hh
  go_wp2_with fail
  refine Hs.out.mono ?_
  rintro e w6 ⟨rfl, h6⟩
  clear k0 k1 k2 k3
  obtain ⟨k0, k1, k2, k3⟩ := (HX.out.1 h6).1.cells
  have hs := hasSlot_one h6 b k HX.out.2.2.2.2.2.1
  rw [hasK_note_ne _ _ _ (by decide), hasK_eq 1 (slotV a k) (slotV b k) [] (a.toList == b.toList) ((bytes_eq a b).trans ⟨fun e => by rw [e], fun e => (slotV_inj e).1.symm⟩) (hasK_nil _ _)] at hs
  have Hs2 := Lib.hid hs
  clear hs h6 Hs
  go_wp2_with fail
  refine Hs2.out.mono ?_
  rintro e w7 ⟨rfl, h7⟩
  clear k0 k1 k2 k3
  have ha7 := addr_one h7 b (by simp at hl3; omega)
  rw [hasK_note_ne _ _ _ (by decide), hasK_note_ne _ _ _ (by decide), hasK_nil] at ha7
  have Ha := Lib.hid ha7
  clear ha7 h7 Hs2
  go_wp2_with fail
  refine Ha.out.mono ?_
  rintro e w8 ⟨rfl, h8⟩
  obtain ⟨k0, k1, k2, k3⟩ := (HX.out.1 h8).1.cells
  obtain ⟨m0, m1, m2, m3⟩ := (HX.out.1 h8).2.cells
  have hh := hasAddr_one h8 b
  rw [noteL_hasK] at hh
  have Hh := Lib.hid hh
  clear hh h8 Ha
  go_wp2_with fail
  refine Hh.out.mono ?_
  rintro e w9 ⟨rfl, h9⟩
  clear k0 k1 k2 k3 m0 m1 m2 m3
  have hh := hasAddr_one h9 a
  rw [hasK_eq 0 (.string b) (.string a) _ (a.toList == b.toList) ((bytes_eq a b).trans ⟨fun e => by rw [e], fun e => by cases e; rfl⟩) (by rw [hasK_note_ne _ _ _ (by decide), hasK_note_ne _ _ _ (by decide), hasK_nil])] at hh
  have Hh := Lib.hid hh
  clear hh h9
  go_wp2_with fail
  refine Hh.out.mono ?_
  rintro e w10 ⟨rfl, h10⟩
  have hl10 := noteL_length 0 (.string b) (noteL 2 (.string a) (noteL 1 (slotV a k) []))
  have hlen : (noteL 0 (.string b) (noteL 2 (.string a) (noteL 1 (slotV a k) []))).length ≤ 3 := by simp at hl3; omega
  have hin : (Value.string a) ∈ keysOf 2 (noteL 0 (.string b) (noteL 2 (.string a) (noteL 1 (slotV a k) []))) := by
    have h1 : hasK 2 (.string a) (noteL 0 (.string b) (noteL 2 (.string a) (noteL 1 (slotV a k) []))) = true := by rw [hasK_note_ne _ _ _ (by decide)]; exact noteL_hasK _ _ _
    by_cases h : (Value.string a) ∈ keysOf 2 (noteL 0 (.string b) (noteL 2 (.string a) (noteL 1 (slotV a k) [])))
    · exact h
    · rw [hasK_false h] at h1; cases h1
  have hm := made_one h10 a (by omega)
  rw [hasK_true hin, noteL_had hin] at hm
  have Hm := Lib.hid hm
  clear hm h10 Hh hl3 hl4 hl10 hin
  go_wp2_with fail
  refine Hm.out.mono ?_
  rintro e w11 ⟨rfl, h11⟩
  have hm := made_one h11 (a ++ ⟨#[120]⟩) (by omega)
  rw [show hasK 2 (.string (a ++ ⟨#[120]⟩)) (noteL 0 (.string b) (noteL 2 (.string a) (noteL 1 (slotV a k) []))) = false by
    rw [hasK_note_ne _ _ _ (by decide), hasK_note_other _ (fun e => ?_), hasK_note_ne _ _ _ (by decide), hasK_nil]
    have e1 : a ++ ⟨#[120]⟩ = a := Value.string.inj e
    have e2 := congrArg ByteArray.size e1
    rw [ByteArray.size_append] at e2
    have e3 : (⟨#[120]⟩ : ByteArray).size = 1 := rfl
    omega] at hm
  have Hm2 := Lib.hid hm
  clear hm h11 Hm hlen
  go_wp2_with fail
  refine Hm2.out.mono ?_
  rintro e w12 ⟨rfl, h12⟩
  have HE := Lib.hid h12.world
  clear h12 Hm2
  go_wp2_with fail
  go_ret
  exact ⟨rfl, HX.out.2.2.2.2.2.2.trans (HE.out.mono HX.out.2.2.2.2.2.2.size)⟩
end Go.Proofs.Ytgjaennilkhejaa
