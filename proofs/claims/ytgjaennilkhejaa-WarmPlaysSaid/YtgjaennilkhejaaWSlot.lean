/- The walks of Slot and New. The bound: at most 10^6 changes. -/
import Derived.Test.YtgjaennilkhejaaWApi
namespace Go.Proofs.Ytgjaennilkhejaa
open Go.RowKit
attribute [local go_sem ↓] Go.wp_at_zero Go.wp_at_succ
section
variable {w : World} {s : Nat} {g : Gs} {gs : List G}
set_option maxRecDepth 100000 in
theorem slot_c (h : SetC w s g gs gs) (a : ByteArray) (k : W4) (hok : SlotOk (slotV a k)) (hlen : gs.length < 1000000) :
    Calls Try.prog 10 #[.pointer (some ⟨s, 0, none⟩), .string a, .agg #[.int .u64 k.a, .int .u64 k.b, .int .u64 k.c, .int .u64 k.d]] w fun e w' =>
      e = .returned (.bool (hasK 1 (slotV a k) (absL gs))) ∧ Turns w s (foot s g gs gs) (noteL 1 (slotV a k) (absL gs)) w' := by
  obtain ⟨W1, hW1⟩ : ∃ W1, W1 = w.alloc (.cells #[.int .u64 k.a, .int .u64 k.b, .int .u64 k.c, .int .u64 k.d] 24 (0, 0)) := ⟨_, rfl⟩
  have hb : Below w.heap.size w W1 := by rw [hW1]; exact (Below.refl _ _).alloc (Nat.le_refl _) _
  have o1 : W1.heap[w.heap.size]? = some (.cells #[.int .u64 k.a, .int .u64 k.b, .int .u64 k.c, .int .u64 k.d] 24 (0, 0)) := by rw [hW1]; exact heap_alloc_new w _
  have h1 := h.below hb
  have hd : Below w.heap.size w W1.drew := hb.drew
  have h2 := h.below hd
  have hn := slot_any h2 a k hok hlen
  obtain ⟨_, d1, _⟩ := h1.cells
  obtain ⟨m, hm⟩ : ∃ m, m = g.maps 1 := ⟨_, rfl⟩
  obtain ⟨r, hr⟩ : ∃ r, r = hasK 1 (slotV a k) (absL gs) := ⟨_, rfl⟩
  rw [← hr, ← hm] at hn
  rw [← hm] at d1
  rw [← hr]
  have k0 : W1.cell? ⟨w.heap.size, 0, none⟩ = some (.int .u64 k.a) := by rw [cell_of_row _ _ _ _ _ _ o1]; rfl
  have k1 : W1.cell? ⟨w.heap.size, 1, none⟩ = some (.int .u64 k.b) := by rw [cell_of_row _ _ _ _ _ _ o1]; rfl
  have k2 : W1.cell? ⟨w.heap.size, 2, none⟩ = some (.int .u64 k.c) := by rw [cell_of_row _ _ _ _ _ _ o1]; rfl
  have k3 : W1.cell? ⟨w.heap.size, 3, none⟩ = some (.int .u64 k.d) := by rw [cell_of_row _ _ _ _ _ _ o1]; rfl
  have Hn := Lib.hid hn
  have HW1 := Lib.hid hW1
  have HT := Lib.hid (And.intro h hd)
  clear h hm hr hok h1 h2 hb hd hW1 o1 hn hlen
  go_enter Try.func10, Try.ntmps10
  go_upto_region 1 with fail
  rw [← HW1.out]
  go_still_tail 8, (by kernel_rfl)
  change wpList _ _ _ _ _ W1.drew
  generalize hwx : W1.drew = wx
  rw [hwx] at Hn
  have Hwx := Lib.hid hwx
  clear hwx
  go_wp2_with fail
  refine Hn.out.mono ?_
  rintro e w1 ⟨rfl, hT⟩
  have HT1 := Lib.hid hT
  clear hT
  go_wp2_with fail
  go_ret
  have hh := HT.out.2
  rw [Hwx.out] at hh
  exact ⟨rfl, HT.out.1.turnsIn hh HT1.out⟩
end
/-- A set of nothing. -/
theorem new_world (w W : World) (hW : W = ((((w.alloc (.map #[] 0)).alloc (.map #[] 0)).alloc (.map #[] 0)).alloc (.map #[] 0)).alloc (.cells #[.map (some w.heap.size), .map (some (w.heap.size + 1)), .map (some (w.heap.size + 1 + 1)), .map (some (w.heap.size + 1 + 1 + 1)), .int .i64 0, .slice none 0 0, .slice none 0 0] 64 (0, 0))) :
    ∃ F, At W (w.heap.size + 1 + 1 + 1 + 1) [] F ∧ (∀ k, F k → w.heap.size ≤ k) ∧ Below w.heap.size w W := by
  obtain ⟨W1, hW1⟩ : ∃ W1, W1 = w.alloc (.map #[] 0) := ⟨_, rfl⟩
  obtain ⟨W2, hW2⟩ : ∃ W2, W2 = W1.alloc (.map #[] 0) := ⟨_, rfl⟩
  obtain ⟨W3, hW3⟩ : ∃ W3, W3 = W2.alloc (.map #[] 0) := ⟨_, rfl⟩
  obtain ⟨W4, hW4⟩ : ∃ W4, W4 = W3.alloc (.map #[] 0) := ⟨_, rfl⟩
  rw [← hW1, ← hW2, ← hW3, ← hW4] at hW
  have s1 : W1.heap.size = w.heap.size + 1 := by rw [hW1]; exact World.size_alloc _ _
  have s2 : W2.heap.size = w.heap.size + 1 + 1 := by rw [hW2, World.size_alloc, s1]
  have s3 : W3.heap.size = w.heap.size + 1 + 1 + 1 := by rw [hW3, World.size_alloc, s2]
  have s4 : W4.heap.size = w.heap.size + 1 + 1 + 1 + 1 := by rw [hW4, World.size_alloc, s3]
  have b1 : Below w.heap.size w W1 := by rw [hW1]; exact (Below.refl _ _).alloc (Nat.le_refl _) _
  have b2 : Below W1.heap.size W1 W2 := by rw [hW2]; exact (Below.refl _ _).alloc (Nat.le_refl _) _
  have b3 : Below W2.heap.size W2 W3 := by rw [hW3]; exact (Below.refl _ _).alloc (Nat.le_refl _) _
  have b4 : Below W3.heap.size W3 W4 := by rw [hW4]; exact (Below.refl _ _).alloc (Nat.le_refl _) _
  have b5 : Below W4.heap.size W4 W := by rw [hW]; exact (Below.refl _ _).alloc (Nat.le_refl _) _
  have m0 : W.heap[w.heap.size]? = some (.map #[] 0) := by
    rw [b5.block _ (by omega), b4.block _ (by omega), b3.block _ (by omega), b2.block _ (by omega), hW1, heap_alloc_new]
  have m1 : W.heap[w.heap.size + 1]? = some (.map #[] 0) := by
    rw [b5.block _ (by omega), b4.block _ (by omega), b3.block _ (by omega), hW2, ← s1, heap_alloc_new]
  have m2 : W.heap[w.heap.size + 1 + 1]? = some (.map #[] 0) := by
    rw [b5.block _ (by omega), b4.block _ (by omega), hW3, ← s2, heap_alloc_new]
  have m3 : W.heap[w.heap.size + 1 + 1 + 1]? = some (.map #[] 0) := by
    rw [b5.block _ (by omega), hW4, ← s3, heap_alloc_new]
  have ms : W.heap[w.heap.size + 1 + 1 + 1 + 1]? = some (.cells #[.map (some w.heap.size), .map (some (w.heap.size + 1)), .map (some (w.heap.size + 1 + 1)), .map (some (w.heap.size + 1 + 1 + 1)), .int .i64 0, .slice none 0 0, .slice none 0 0] 64 (0, 0)) := by
    rw [hW, ← s4, heap_alloc_new]
  obtain ⟨mp, hmp⟩ : ∃ mp : Fin 4 → Nat, mp = fun f => w.heap.size + f.val := ⟨_, rfl⟩
  have hu : ∀ b, W.heap[b]? = some (.map #[] 0) → UMap W b [] := fun b hb => ⟨#[], 0, hb, rfl, by simp, by simp, by simp⟩
  refine ⟨_, ⟨⟨mp, none, 0, none, 0⟩, [], ⟨?_, ?_, ?_, ⟨rfl, Nat.le_refl _, rfl⟩, ⟨rfl, Nat.le_refl _, rfl⟩, by simp, by simp, fun f => by simp [keysOf, absL]⟩, rfl, rfl⟩, ?_, ?_⟩
  · rw [ms, hmp]; rfl
  · intro f
    show UMap W (mp f) []
    rw [hmp]
    obtain ⟨i, hi⟩ := f
    rcases i with _ | _ | _ | _ | i
    · exact hu _ m0
    · exact hu _ m1
    · exact hu _ m2
    · exact hu _ m3
    · omega
  · intro f f' e
    have e' : mp f = mp f' := e
    rw [hmp] at e'
    exact Fin.ext (by simpa using e')
  · rintro k (rfl | ⟨f, rfl⟩ | e | e | ⟨c, hc, _⟩ | ⟨c, hc, _⟩)
    · omega
    · show w.heap.size ≤ mp f
      rw [hmp]; exact Nat.le_add_right _ _
    · cases e
    · cases e
    · cases hc
    · cases hc
  · exact b1.trans ((b2.mono (by omega)).trans ((b3.mono (by omega)).trans ((b4.mono (by omega)).trans (b5.mono (by omega)))))
set_option maxRecDepth 100000 in
theorem new_any {W0 w : World} (hb : Below W0.heap.size W0 w) : Calls Try.prog 9 #[] w fun e w' => ∃ s, e = .returned (.pointer (some ⟨s, 0, none⟩)) ∧ One W0 w' s [] := by
  have hw := new_world w _ rfl
  have hmm := @run_makeMap Try.prog
  have Hw := Lib.hid hw
  have Hb := Lib.hid hb
  clear hw hb
  go_enter Try.func9, Try.ntmps9
  go_wp2_with fail
  go_ret
  obtain ⟨F, h1, h2, h3⟩ := Hw.out
  exact ⟨_, rfl, F, h1, fun k hk => Nat.le_trans Hb.out.size (h2 k hk), Hb.out.trans (h3.mono Hb.out.size)⟩
end Go.Proofs.Ytgjaennilkhejaa
