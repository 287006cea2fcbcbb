/- The contracts at a set, told by its changes. The bound: at most 10^6 changes. -/
import Derived.Test.YtgjaennilkhejaaWBack
namespace Go.Proofs.Ytgjaennilkhejaa
open Go.RowKit
attribute [local go_sem ↓] Go.wp_at_zero Go.wp_at_succ
section
variable {W0 w : World} {s : Nat} {L : List Ch}
theorem addr_one (h : One W0 w s L) (a : ByteArray) (hlen : L.length < 1000000) :
    Calls Try.prog 14 #[.pointer (some ⟨s, 0, none⟩), .string a] w fun e w' => e = .returned (.bool (hasK 0 (.string a) L)) ∧ One W0 w' s (noteL 0 (.string a) L) := Calls.one h fun F hF => by
  obtain ⟨g, gs, hC, rfl, rfl⟩ := hF
  exact addr_c hC a (by simpa [absL] using hlen)
theorem made_one (h : One W0 w s L) (a : ByteArray) (hlen : L.length < 1000000) :
    Calls Try.prog 11 #[.pointer (some ⟨s, 0, none⟩), .string a] w fun e w' => e = .returned (.bool (hasK 2 (.string a) L)) ∧ One W0 w' s (noteL 2 (.string a) L) := Calls.one h fun F hF => by
  obtain ⟨g, gs, hC, rfl, rfl⟩ := hF
  exact made_c hC a (by simpa [absL] using hlen)
theorem gone_one (h : One W0 w s L) (a : ByteArray) (hlen : L.length < 1000000) :
    Calls Try.prog 19 #[.pointer (some ⟨s, 0, none⟩), .string a] w fun e w' => e = .returned (.tuple #[]) ∧ One W0 w' s (noteL 3 (.string a) L) := Calls.one h fun F hF => by
  obtain ⟨g, gs, hC, rfl, rfl⟩ := hF
  exact gone_c hC a (by simpa [absL] using hlen)
theorem slot_one (h : One W0 w s L) (a : ByteArray) (k : W4) (hok : SlotOk (slotV a k)) (hlen : L.length < 1000000) :
    Calls Try.prog 10 #[.pointer (some ⟨s, 0, none⟩), .string a, .agg #[.int .u64 k.a, .int .u64 k.b, .int .u64 k.c, .int .u64 k.d]] w fun e w' =>
      e = .returned (.bool (hasK 1 (slotV a k) L)) ∧ One W0 w' s (noteL 1 (slotV a k) L) := Calls.one h fun F hF => by
  obtain ⟨g, gs, hC, rfl, rfl⟩ := hF
  exact slot_c hC a k hok (by simpa [absL] using hlen)
theorem refund_one (h : One W0 w s L) (n : Int) (hlen : L.length < 1000000) :
    Calls Try.prog 22 #[.pointer (some ⟨s, 0, none⟩), .int .i64 n] w fun e w' => e = .returned (.tuple #[]) ∧ One W0 w' s (L ++ [.refund n]) := Calls.one h fun F hF => by
  obtain ⟨g, gs, hC, rfl, rfl⟩ := hF
  exact refund_c hC n (by simpa [absL] using hlen)
theorem back_one (h : One W0 w s L) (m : Nat) (hm : m ≤ L.length) (hlen : L.length < 1000000) :
    Calls Try.prog 20 #[.pointer (some ⟨s, 0, none⟩), .int .i64 (m : Int)] w fun e w' => e = .returned (.bool true) ∧ One W0 w' s (L.take m) := Calls.one h fun F hF => by
  obtain ⟨g, gs, hC, rfl, rfl⟩ := hF
  exact back_ok hC m (by simpa [absL] using hm) (by simpa [absL] using hlen)
theorem back_no (h : One W0 w s L) (m : Int) (hm : m < 0 ∨ (L.length : Int) < m) : Calls Try.prog 20 #[.pointer (some ⟨s, 0, none⟩), .int .i64 m] w fun e w' => e = .returned (.bool false) ∧ w = w' := by
  obtain ⟨F, ⟨g, gs, hC, rfl, rfl⟩, _⟩ := h
  exact back_bad hC m hm
theorem total_one (h : One W0 w s L) : Calls Try.prog 23 #[.pointer (some ⟨s, 0, none⟩)] w fun e w' => e = .returned (.int .i64 (tot L)) ∧ w = w' := by
  obtain ⟨F, ⟨g, gs, hC, rfl, rfl⟩, _⟩ := h
  exact total_c hC
theorem mark_one (h : One W0 w s L) : Calls Try.prog 18 #[.pointer (some ⟨s, 0, none⟩)] w fun e w' => e = .returned (.int .i64 (L.length : Nat)) ∧ w = w' := by
  obtain ⟨F, ⟨g, gs, hC, rfl, rfl⟩, _⟩ := h
  exact mark_c hC
theorem hasAddr_one (h : One W0 w s L) (a : ByteArray) : Calls Try.prog 12 #[.pointer (some ⟨s, 0, none⟩), .string a] w fun e w' => e = .returned (.bool (hasK 0 (.string a) L)) ∧ One W0 w' s L := by
  have h0 := h
  obtain ⟨F, ⟨g, gs, hC, rfl, rfl⟩, _⟩ := h
  exact (hasAddr_c hC a).mono fun e w' hx => ⟨hx.1, h0.below hx.2⟩
theorem hasSlot_one (h : One W0 w s L) (a : ByteArray) (k : W4) (hok : SlotOk (slotV a k)) :
    Calls Try.prog 13 #[.pointer (some ⟨s, 0, none⟩), .string a, .agg #[.int .u64 k.a, .int .u64 k.b, .int .u64 k.c, .int .u64 k.d]] w fun e w' => e = .returned (.bool (hasK 1 (slotV a k) L)) ∧ One W0 w' s L := by
  have h0 := h
  obtain ⟨F, ⟨g, gs, hC, rfl, rfl⟩, _⟩ := h
  exact (hasSlot_c hC a k hok).mono fun e w' hx => ⟨hx.1, h0.below hx.2⟩
end
theorem hasK_nil (f : Fin 4) (v : Value) : hasK f v [] = false := hasK_false (by simp [keysOf])
theorem hasK_snoc (f : Fin 4) (v : Value) (L : List Ch) : hasK f v (L ++ [.key f v]) = true := hasK_true (by rw [keysOf_key]; simp)
theorem noteL_hasK (f : Fin 4) (v : Value) (L : List Ch) : hasK f v (noteL f v L) = true := by
  by_cases h : v ∈ keysOf f L
  · rw [noteL_had h]; exact hasK_true h
  · rw [noteL_new h]; exact hasK_snoc f v L
theorem hasK_note_ne {f f' : Fin 4} (v v' : Value) (L : List Ch) (e : f' ≠ f) : hasK f' v' (noteL f v L) = hasK f' v' L := by
  by_cases h : v ∈ keysOf f L
  · rw [noteL_had h]
  · rw [noteL_new h]; unfold hasK; rw [keysOf_ne _ _ e]
theorem hasK_note_other {f : Fin 4} {v v' : Value} (L : List Ch) (e : v' ≠ v) : hasK f v' (noteL f v L) = hasK f v' L := by
  by_cases h : v ∈ keysOf f L
  · rw [noteL_had h]
  · rw [noteL_new h]
    by_cases h2 : v' ∈ keysOf f L
    · rw [hasK_true h2, hasK_true]; rw [keysOf_key]; exact List.mem_append_left _ h2
    · rw [hasK_false h2, hasK_false]; rw [keysOf_key]; simp [h2, e]
theorem noteL_length (f : Fin 4) (v : Value) (L : List Ch) : (noteL f v L).length ≤ L.length + 1 := by
  by_cases h : v ∈ keysOf f L
  · rw [noteL_had h]; omega
  · rw [noteL_new h]; simp
set_option maxRecDepth 100000 in
set_option maxHeartbeats 1600000 in
theorem examples11 (w : World) : Calls Try.prog 8 #[] w fun e w' => e = .returned (.bool true) ∧ Below w.heap.size w w' := by
  have hnew := new_any (Below.refl w.heap.size w)
  have Hn := Lib.hid hnew
  clear hnew
  go_enter Try.func8, Try.ntmps8
  go_wp2_with fail
  refine Hn.out.mono ?_
  rintro e w1 ⟨s, rfl, h1⟩
  have ha := addr_one h1 ⟨#[97]⟩ (by simp)
  rw [hasK_nil, noteL_new (by simp [keysOf])] at ha
  have Ha := Lib.hid ha
  clear ha h1 Hn
  go_wp2_with fail
  refine Ha.out.mono ?_
  rintro e w2 ⟨rfl, h2⟩
  have ha2 := addr_one h2 ⟨#[97]⟩ (by simp)
  rw [hasK_snoc, noteL_had (by rw [keysOf_key]; simp)] at ha2
  have Ha2 := Lib.hid ha2
  clear ha2 h2 Ha
  go_wp2_with fail
  refine Ha2.out.mono ?_
  rintro e w3 ⟨rfl, h3⟩
  have hs := hasSlot_one h3 ⟨#[97]⟩ ⟨0, 0, 0, 0⟩ (slot_ok (by unfold maxLen; decide) (by unfold W4.wf; decide))
  rw [show hasK 1 (slotV ⟨#[97]⟩ ⟨0, 0, 0, 0⟩) ([] ++ [.key 0 (.string ⟨#[97]⟩)]) = false from hasK_false (by simp [keysOf, keyIn])] at hs
  have Hs := Lib.hid hs
  clear hs h3 Ha2
  go_wp2_with fail
  refine Hs.out.mono ?_
  rintro e w4 ⟨rfl, h4⟩
  have hr := refund_one h4 5 (by simp)
  have Hr := Lib.hid hr
  clear hr h4 Hs
  go_wp2_with fail
  refine Hr.out.mono ?_
  rintro e w5 ⟨rfl, h5⟩
  have hh := hasAddr_one h5 ⟨#[97]⟩
  rw [show hasK 0 (.string ⟨#[97]⟩) ([] ++ [.key 0 (.string ⟨#[97]⟩)] ++ [.refund 5]) = true from hasK_true (by simp [keysOf, keyIn])] at hh
  have Hh := Lib.hid hh
  clear hh h5 Hr
  go_wp2_with fail
  refine Hh.out.mono ?_
  rintro e w6 ⟨rfl, h6⟩
  have ht := total_one h6
  rw [show tot ([] ++ [.key 0 (.string ⟨#[97]⟩)] ++ [.refund 5]) = 5 by simp [tot, addN, wrap64]] at ht
  have hm := mark_one h6
  have Ht := Lib.hid (And.intro ht (And.intro hm h6))
  clear ht hm h6 Hh
  go_wp2_with fail
  refine Ht.out.1.mono ?_
  rintro e w7 ⟨rfl, rfl⟩
  go_wp2_with fail
  refine Ht.out.2.1.mono ?_
  rintro e w8 ⟨rfl, rfl⟩
  have hb := back_one Ht.out.2.2 1 (by simp) (by simp)
  have Hb := Lib.hid hb
  clear hb Ht
  go_wp2_with fail
  refine Hb.out.mono ?_
  rintro e w9 ⟨rfl, h9'⟩
  have h9 : One w w9 s [.key 0 (.string ⟨#[97]⟩)] := h9'
  clear h9'
  have ht := total_one h9
  rw [show tot [.key 0 (.string ⟨#[97]⟩)] = 0 by simp [tot, addN]] at ht
  have hb2 := back_no h9 2 (by simp)
  have HW := Lib.hid (And.intro ht (And.intro hb2 h9.world))
  clear ht hb2 h9 Hb
  go_wp2_with fail
  refine HW.out.1.mono ?_
  rintro e w10 ⟨rfl, rfl⟩
  go_wp2_with fail
  refine HW.out.2.1.mono ?_
  rintro e w11 ⟨rfl, rfl⟩
  go_wp2_with fail
  go_ret
  exact ⟨rfl, HW.out.2.2⟩
end Go.Proofs.Ytgjaennilkhejaa
