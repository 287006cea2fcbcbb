/- The walk of same at two slices of the same strings. No condition. -/
import Derived.Test.YtmjeanbbhacnaaaRecMath
import Derived.Test.YtmjeanbbhacnaaaStrArg
namespace Go.Proofs.Ytmjeanbbhacnaaa
open Go.RowKit
attribute [local go_sem ↓] Go.wp_at_zero Go.wp_at_succ
theorem StrArg.below {w w' : World} {v : Value} {ss : List ByteArray} (h : StrArg w v ss) (hb : Below w.heap.size w w') : StrArg w' v ss := by
  obtain ⟨a, len, cap, h1, h2, h3, h4, h5⟩ := h
  refine ⟨a, len, cap, h1, h2, h3, h4, fun i hi => ?_⟩
  obtain ⟨b, k1, k2, k3⟩ := h5 i hi
  have hbb : (b.add i).block = b.block := by unfold Addr.add; split <;> rfl
  exact ⟨b, k1, Nat.lt_of_lt_of_le k2 hb.size, (hb.cell (by rw [hbb]; exact k2)).trans k3⟩
theorem SRowO.arg {w : World} {gb : Option Nat} {cap : Nat} {ns : List ByteArray} (h : SRowO w gb cap ns) (hn : ns.length ≤ 9223372036854775807) : StrArg w (.slice (gb.map fun b => ⟨b, 0, none⟩) ns.length cap) ns := by
  refine ⟨_, _, _, rfl, rfl, ?_, by omega, fun i hi => ?_⟩
  · cases gb with
    | none => obtain ⟨rfl, rfl⟩ : ns = [] ∧ cap = 0 := h; exact Nat.le_refl _
    | some b => obtain ⟨_, _, _, k, _⟩ := h; exact k
  · obtain ⟨b, rfl, hc⟩ := h.cell i hi
    exact ⟨⟨b, 0, none⟩, rfl, h.lt, by rw [add_head]; exact hc⟩
set_option maxRecDepth 100000 in
set_option maxHeartbeats 800000 in
theorem same_true {w : World} {v1 v2 : Value} {ss : List ByteArray} (h1 : StrArg w v1 ss) (h2 : StrArg w v2 ss) :
    Calls Try.prog 30 #[v1, v2] w fun e w' => e = .returned (.bool true) ∧ Below w.heap.size w w' := by
  have h1b := fun w' (hb : Below w.heap.size w w') => h1.below hb
  have h2b := fun w' (hb : Below w.heap.size w w') => h2.below hb
  obtain ⟨a, len, cap, rfl, k2, k3, k4, k5⟩ := h1
  obtain ⟨a', len', cap', rfl, l2, l3, l4, l5⟩ := h2
  obtain rfl : len = len' := k2.symm.trans l2
  have H := Lib.hid (And.intro h1b (And.intro h2b k2))
  clear h1b h2b k2 k3 k5 l2 l3 l4 l5
  go_enter Try.func30, Try.ntmps30
  go_wp2_with fail
  go_loopw [5] (fun i wr => ∃ j : Nat, i = .int .i64 j ∧ (j : Int) ≤ len ∧ Below w.heap.size w wr) (fun i _ => len - (intOf i).toNat)
  case atStart => exact ⟨0, rfl, by omega, Below.refl _ _⟩
  case round =>
    obtain ⟨j, rfl, hj, hb⟩ := hrel
    have hj0 : (0 : Int) ≤ (j : Int) := by omega
    by_cases hlt : (j : Int) < (len : Int)
    · obtain ⟨x1, len1, cap1, e1, g1, _, _, g2⟩ := H.out.1 wr hb
      obtain ⟨x2, len2, cap2, e2, _, _, _, g4⟩ := H.out.2.1 wr hb
      have hk := H.out.2.2
      simp only [Value.slice.injEq] at e1 e2
      obtain ⟨rfl, rfl, rfl⟩ := e1
      obtain ⟨rfl, _, rfl⟩ := e2
      obtain ⟨b1, rfl, _, c1⟩ := g2 j (by omega)
      obtain ⟨b2, rfl, _, c2⟩ := g4 j (by omega)
      obtain ⟨X, hX⟩ : ∃ X, X = ss[j]'(by omega) := ⟨_, rfl⟩
      rw [← hX] at c1 c2
      clear hX g1 g2 g4 hk H
      go_upto_region 6 with fail
      go_quiet (fail)
      go_wp2_with fail
      refine ⟨⟨j + 1, by go_num, by omega, hb.trans ⟨rfl, rfl, rfl, Nat.le_refl _, fun _ _ => rfl⟩⟩, ?_⟩
      simp [intOf]; omega
    · go_wp2_with fail
      go_ret
      exact ⟨rfl, hb⟩
end Go.Proofs.Ytmjeanbbhacnaaa
