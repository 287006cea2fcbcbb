/- The walks of New, Addr, Made, Gone, Slot, HasAddr, HasSlot, Total, Mark. The bound: at most 10^6 changes. -/
import Derived.Test.YtgjaennilkhejaaWNote
import Derived.StillTailTactics
namespace Go.Proofs.Ytgjaennilkhejaa
open Go.RowKit
attribute [local go_sem ↓] Go.wp_at_zero Go.wp_at_succ
noncomputable def hasK (f : Fin 4) (v : Value) (L : List Ch) : Bool := @decide (v ∈ keysOf f L) (Classical.propDecidable _)
noncomputable def noteL (f : Fin 4) (v : Value) (L : List Ch) : List Ch := if hasK f v L = true then L else L ++ [.key f v]
theorem hasK_true {f : Fin 4} {v : Value} {L : List Ch} (h : v ∈ keysOf f L) : hasK f v L = true := by unfold hasK; exact @decide_eq_true _ (Classical.propDecidable _) h
theorem hasK_false {f : Fin 4} {v : Value} {L : List Ch} (h : v ∉ keysOf f L) : hasK f v L = false := by unfold hasK; exact @decide_eq_false _ (Classical.propDecidable _) h
theorem noteL_had {f : Fin 4} {v : Value} {L : List Ch} (h : v ∈ keysOf f L) : noteL f v L = L := by unfold noteL; rw [if_pos (hasK_true h)]
theorem noteL_new {f : Fin 4} {v : Value} {L : List Ch} (h : v ∉ keysOf f L) : noteL f v L = L ++ [.key f v] := by unfold noteL; rw [if_neg (by rw [hasK_false h]; decide)]
section
variable {w : World} {s : Nat} {g : Gs} {gs : List G}
theorem SetC.turns (h : SetC w s g gs gs) {w' : World} (hb : Below w.heap.size w w') : Turns w s (foot s g gs gs) (absL gs) w' := ⟨_, ⟨g, gs, h.below hb, rfl, rfl⟩, Eff.below hb⟩
theorem SetC.turnsIn (h : SetC w s g gs gs) {w1 w2 : World} {L : List Ch} (hb : Below w.heap.size w w1) (ht : Turns w1 s (foot s g gs gs) L w2) : Turns w s (foot s g gs gs) L w2 := by
  have _ := h
  obtain ⟨F', h1, h2⟩ := ht
  exact ⟨F', h1, (Eff.below hb).trans h2⟩
theorem note_any (h : SetC w s g gs gs) (f : Fin 4) (hf : f ≠ 1) (a : ByteArray) (hlen : gs.length < 1000000) :
    Calls Try.prog 30 #[.pointer (some ⟨s, 0, none⟩), .map (some (g.maps f)), .string a] w fun e w' => e = .returned (.bool (hasK f (.string a) (absL gs))) ∧ Turns w s (foot s g gs gs) (noteL f (.string a) (absL gs)) w' := by
  by_cases hin : Value.string a ∈ keysOf f (absL gs)
  · rw [hasK_true hin, noteL_had hin]
    exact (note_had h f hf a hin).mono fun e w' hx => ⟨hx.1, h.turns hx.2⟩
  · rw [hasK_false hin, noteL_new hin]
    exact note_new h f hf a hin hlen
theorem slot_any (h : SetC w s g gs gs) (a : ByteArray) (k : W4) (hok : SlotOk (slotV a k)) (hlen : gs.length < 1000000) :
    Calls Try.prog 29 #[.pointer (some ⟨s, 0, none⟩), .map (some (g.maps 1)), .agg #[.string a, .int .u64 k.a, .int .u64 k.b, .int .u64 k.c, .int .u64 k.d]] w fun e w' =>
      e = .returned (.bool (hasK 1 (slotV a k) (absL gs))) ∧ Turns w s (foot s g gs gs) (noteL 1 (slotV a k) (absL gs)) w' := by
  by_cases hin : slotV a k ∈ keysOf 1 (absL gs)
  · rw [hasK_true hin, noteL_had hin]
    exact (slot_had h a k hok hin).mono fun e w' hx => ⟨hx.1, h.turns hx.2⟩
  · rw [hasK_false hin, noteL_new hin]
    exact slot_new h a k hok hin hlen
theorem SetC.cells (h : SetC w s g gs gs) : w.cell? ⟨s, 0, none⟩ = some (.map (some (g.maps 0))) ∧ w.cell? ⟨s, 1, none⟩ = some (.map (some (g.maps 1))) ∧ w.cell? ⟨s, 2, none⟩ = some (.map (some (g.maps 2))) ∧ w.cell? ⟨s, 3, none⟩ = some (.map (some (g.maps 3))) ∧
    w.cell? ⟨s, 4, none⟩ = some (.int .i64 (tot (absL gs))) ∧ w.cell? ⟨s, 5, none⟩ = some (.slice (g.lb.map fun b => ⟨b, 0, none⟩) (logsOf (absL gs)).length g.lcap) ∧ w.cell? ⟨s, 6, none⟩ = some (.slice (g.ub.map fun b => ⟨b, 0, none⟩) gs.length g.ucap) := by
  refine ⟨?_, ?_, ?_, ?_, ?_, ?_, ?_⟩ <;> (rw [cell_of_row _ _ _ _ _ _ h.set]; rfl)
set_option maxRecDepth 100000 in
theorem addr_c (h : SetC w s g gs gs) (a : ByteArray) (hlen : gs.length < 1000000) :
    Calls Try.prog 14 #[.pointer (some ⟨s, 0, none⟩), .string a] w fun e w' => e = .returned (.bool (hasK 0 (.string a) (absL gs))) ∧ Turns w s (foot s g gs gs) (noteL 0 (.string a) (absL gs)) w' := by
  have hn := note_any h 0 (by decide) a hlen
  obtain ⟨c0, c1, c2, c3, _⟩ := h.cells
  obtain ⟨m, hm⟩ : ∃ m, m = g.maps 0 := ⟨_, rfl⟩
  obtain ⟨r, hr⟩ : ∃ r, r = hasK 0 (.string a) (absL gs) := ⟨_, rfl⟩
  rw [← hr, ← hm] at hn
  rw [← hm] at c0
  rw [← hr]
  have Hn := Lib.hid hn
  clear hn hr hm hlen h
  go_enter Try.func14, Try.ntmps14
  go_wp2_with fail
  refine Hn.out.mono ?_
  rintro e w1 ⟨rfl, hT⟩
  have HT := Lib.hid hT
  clear hT
  go_wp2_with fail
  go_ret
  exact ⟨rfl, HT.out⟩
set_option maxRecDepth 100000 in
theorem made_c (h : SetC w s g gs gs) (a : ByteArray) (hlen : gs.length < 1000000) :
    Calls Try.prog 11 #[.pointer (some ⟨s, 0, none⟩), .string a] w fun e w' => e = .returned (.bool (hasK 2 (.string a) (absL gs))) ∧ Turns w s (foot s g gs gs) (noteL 2 (.string a) (absL gs)) w' := by
  have hn := note_any h 2 (by decide) a hlen
  obtain ⟨c0, c1, c2, c3, _⟩ := h.cells
  obtain ⟨m, hm⟩ : ∃ m, m = g.maps 2 := ⟨_, rfl⟩
  obtain ⟨r, hr⟩ : ∃ r, r = hasK 2 (.string a) (absL gs) := ⟨_, rfl⟩
  rw [← hr, ← hm] at hn
  rw [← hm] at c2
  rw [← hr]
  have Hn := Lib.hid hn
  clear hn hr hm hlen h
  go_enter Try.func11, Try.ntmps11
  go_wp2_with fail
  refine Hn.out.mono ?_
  rintro e w1 ⟨rfl, hT⟩
  have HT := Lib.hid hT
  clear hT
  go_wp2_with fail
  go_ret
  exact ⟨rfl, HT.out⟩
set_option maxRecDepth 100000 in
theorem gone_c (h : SetC w s g gs gs) (a : ByteArray) (hlen : gs.length < 1000000) :
    Calls Try.prog 19 #[.pointer (some ⟨s, 0, none⟩), .string a] w fun e w' => e = .returned (.tuple #[]) ∧ Turns w s (foot s g gs gs) (noteL 3 (.string a) (absL gs)) w' := by
  have hn := note_any h 3 (by decide) a hlen
  obtain ⟨c0, c1, c2, c3, _⟩ := h.cells
  obtain ⟨m, hm⟩ : ∃ m, m = g.maps 3 := ⟨_, rfl⟩
  obtain ⟨r, hr⟩ : ∃ r, r = hasK 3 (.string a) (absL gs) := ⟨_, rfl⟩
  rw [← hr, ← hm] at hn
  rw [← hm] at c3
  
  have Hn := Lib.hid hn
  clear hn hr hm hlen h
  go_enter Try.func19, Try.ntmps19
  go_wp2_with fail
  refine Hn.out.mono ?_
  rintro e w1 ⟨rfl, hT⟩
  have HT := Lib.hid hT
  clear hT
  go_wp2_with fail
  go_end0
  exact ⟨rfl, HT.out⟩
set_option maxRecDepth 100000 in
theorem total_c (h : SetC w s g gs gs) : Calls Try.prog 23 #[.pointer (some ⟨s, 0, none⟩)] w fun e w' => e = .returned (.int .i64 (tot (absL gs))) ∧ w = w' := by
  obtain ⟨_, _, _, _, c4, _⟩ := h.cells
  clear h
  go_enter Try.func23, Try.ntmps23
  go_wp2_with fail
  go_ret
  exact ⟨rfl, rfl⟩
set_option maxRecDepth 100000 in
theorem mark_c (h : SetC w s g gs gs) : Calls Try.prog 18 #[.pointer (some ⟨s, 0, none⟩)] w fun e w' => e = .returned (.int .i64 ((absL gs).length : Nat)) ∧ w = w' := by
  obtain ⟨_, _, _, _, _, _, c6⟩ := h.cells
  rw [show (absL gs).length = gs.length by simp [absL]]
  obtain ⟨ua, hua⟩ : ∃ ua : Option Addr, ua = g.ub.map fun b => ⟨b, 0, none⟩ := ⟨_, rfl⟩
  rw [← hua] at c6
  clear h hua
  go_enter Try.func18, Try.ntmps18
  go_wp2_with fail
  go_ret
  exact ⟨rfl, rfl⟩
set_option maxRecDepth 100000 in
theorem hasAddr_c (h : SetC w s g gs gs) (a : ByteArray) :
    Calls Try.prog 12 #[.pointer (some ⟨s, 0, none⟩), .string a] w fun e w' => e = .returned (.bool (hasK 0 (.string a) (absL gs))) ∧ Below w.heap.size w w' := by
  have hl : (Instr.lookup 60 (.map (some (g.maps 0))) (.string a) true).run Try.prog w = .ok (.tuple #[.agg #[], .bool (hasK 0 (.string a) (absL gs))]) w := by
    by_cases hin : Value.string a ∈ keysOf 0 (absL gs)
    · rw [hasK_true hin]; exact (h.map 0).has (keys_of 0) (keysOf_ok h 0) (k := .string a) ⟨a, rfl⟩ hin
    · rw [hasK_false hin]; exact (h.map 0).hasnt (keys_of 0) (keysOf_ok h 0) (k := .string a) ⟨a, rfl⟩ hin
  obtain ⟨c0, _⟩ := h.cells
  obtain ⟨m, hm⟩ : ∃ m, m = g.maps 0 := ⟨_, rfl⟩
  obtain ⟨r, hr⟩ : ∃ r, r = hasK 0 (.string a) (absL gs) := ⟨_, rfl⟩
  rw [← hm] at hl c0
  rw [← hr] at hl ⊢
  clear h hm hr
  go_enter Try.func12, Try.ntmps12
  go_wp2_with fail
  go_ret
  exact ⟨rfl, (Below.refl _ _).alloc (Nat.le_refl _) _⟩
set_option maxRecDepth 100000 in
theorem hasSlot_c (h : SetC w s g gs gs) (a : ByteArray) (k : W4) (hok : SlotOk (slotV a k)) :
    Calls Try.prog 13 #[.pointer (some ⟨s, 0, none⟩), .string a, .agg #[.int .u64 k.a, .int .u64 k.b, .int .u64 k.c, .int .u64 k.d]] w fun e w' => e = .returned (.bool (hasK 1 (slotV a k) (absL gs))) ∧ Below w.heap.size w w' := by
  obtain ⟨W1, hW1⟩ : ∃ W1, W1 = w.alloc (.cells #[.int .u64 k.a, .int .u64 k.b, .int .u64 k.c, .int .u64 k.d] 24 (0, 0)) := ⟨_, rfl⟩
  have hb : Below w.heap.size w W1 := by rw [hW1]; exact (Below.refl _ _).alloc (Nat.le_refl _) _
  have o1 : W1.heap[w.heap.size]? = some (.cells #[.int .u64 k.a, .int .u64 k.b, .int .u64 k.c, .int .u64 k.d] 24 (0, 0)) := by rw [hW1]; exact heap_alloc_new w _
  have h1 := h.below hb
  have hlA : ∀ W, Below W1.heap.size W1 W → (Instr.lookup 61 (.map (some (g.maps 1))) (slotV a k) true).run Try.prog W = .ok (.tuple #[.agg #[], .bool (hasK 1 (slotV a k) (absL gs))]) W := fun W hbW => by
    have h2 : SetC W s g gs gs := h1.below hbW
    by_cases hin : slotV a k ∈ keysOf 1 (absL gs)
    · rw [hasK_true hin]; exact (h2.map 1).has (keys_of 1) (keysOf_ok h2 1) (k := slotV a k) hok hin
    · rw [hasK_false hin]; exact (h2.map 1).hasnt (keys_of 1) (keysOf_ok h2 1) (k := slotV a k) hok hin
  have hbA : Below W1.heap.size W1 (W1.alloc (.cells #[] 69 (0, 0))) := (Below.refl _ _).alloc (Nat.le_refl _) _
  obtain ⟨_, d1, _⟩ := h1.cells
  obtain ⟨_, e1, _⟩ := (h1.below hbA).cells
  have o2 := (hbA.block _ (lt_of_block o1)).trans o1
  have hl1 := hlA _ ((Below.refl W1.heap.size W1).drew)
  have hl2 := hlA _ (hbA.drew)
  obtain ⟨m, hm⟩ : ∃ m, m = g.maps 1 := ⟨_, rfl⟩
  obtain ⟨r, hr⟩ : ∃ r, r = hasK 1 (slotV a k) (absL gs) := ⟨_, rfl⟩
  rw [← hm] at d1 e1
  rw [← hr] at hl1 hl2 ⊢
  rw [← hm] at hl1 hl2
  unfold slotV at hl1 hl2
  have k0o1 : World.cell? W1 ⟨w.heap.size, 0, none⟩ = some (.int .u64 k.a) := by rw [cell_of_row _ _ _ _ _ _ o1]; rfl
  have k1o1 : World.cell? W1 ⟨w.heap.size, 1, none⟩ = some (.int .u64 k.b) := by rw [cell_of_row _ _ _ _ _ _ o1]; rfl
  have k2o1 : World.cell? W1 ⟨w.heap.size, 2, none⟩ = some (.int .u64 k.c) := by rw [cell_of_row _ _ _ _ _ _ o1]; rfl
  have k3o1 : World.cell? W1 ⟨w.heap.size, 3, none⟩ = some (.int .u64 k.d) := by rw [cell_of_row _ _ _ _ _ _ o1]; rfl
  have k0o2 : World.cell? (W1.alloc (.cells #[] 69 (0, 0))) ⟨w.heap.size, 0, none⟩ = some (.int .u64 k.a) := by rw [cell_of_row _ _ _ _ _ _ o2]; rfl
  have k1o2 : World.cell? (W1.alloc (.cells #[] 69 (0, 0))) ⟨w.heap.size, 1, none⟩ = some (.int .u64 k.b) := by rw [cell_of_row _ _ _ _ _ _ o2]; rfl
  have k2o2 : World.cell? (W1.alloc (.cells #[] 69 (0, 0))) ⟨w.heap.size, 2, none⟩ = some (.int .u64 k.c) := by rw [cell_of_row _ _ _ _ _ _ o2]; rfl
  have k3o2 : World.cell? (W1.alloc (.cells #[] 69 (0, 0))) ⟨w.heap.size, 3, none⟩ = some (.int .u64 k.d) := by rw [cell_of_row _ _ _ _ _ _ o2]; rfl
  have Hb := Lib.hid (hb.trans ((hbA.drew).mono hb.size))
  have HW1 := Lib.hid hW1
  clear h hm hr hok h1 hb hW1 o1 o2 hlA hbA
  go_enter Try.func13, Try.ntmps13
  go_upto_region 1 with fail
  rw [← HW1.out]
  go_region
  all_goals go_wp2_with fail
  all_goals go_ret
  all_goals exact ⟨rfl, Hb.out⟩
end
end Go.Proofs.Ytgjaennilkhejaa
