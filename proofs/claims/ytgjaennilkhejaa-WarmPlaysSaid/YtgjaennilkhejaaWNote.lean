/- The walks of note. The bound: at most 10^6 changes. -/
import Derived.Test.YtgjaennilkhejaaWAt
namespace Go.Proofs.Ytgjaennilkhejaa
open Go.RowKit
attribute [local go_sem ↓] Go.wp_at_zero Go.wp_at_succ
section
variable {w : World} {s : Nat} {g : Gs} {gs : List G}
set_option maxRecDepth 100000 in
theorem note_had (h : SetC w s g gs gs) (f : Fin 4) (hf : f ≠ 1) (a : ByteArray) (hin : Value.string a ∈ keysOf f (absL gs)) :
    Calls Try.prog 30 #[.pointer (some ⟨s, 0, none⟩), .map (some (g.maps f)), Value.string a] w fun e w' => e = .returned (.bool true) ∧ Below w.heap.size w w' := by
  obtain ⟨W2, hW2⟩ : ∃ W2, W2 = (w.alloc (.cells #[.map (some (g.maps f))] 60 (0, 0))).alloc (.cells #[.string a] 9 (0, 0)) := ⟨_, rfl⟩
  obtain ⟨o1, o2, hb⟩ := boxes2 w _ _ _ hW2
  have h2 := h.below hb
  have hl := (h2.map f).has (keys_of f) (keysOf_ok h2 f) (k := Value.string a) (by unfold okK; rw [if_neg hf]; exact ⟨a, rfl⟩) hin
  rw [show tM f = 60 by unfold tM; rw [if_neg hf]] at hl
  obtain ⟨m, hm⟩ : ∃ m, m = g.maps f := ⟨_, rfl⟩
  rw [← hm] at hl hW2 ⊢
  have c1 := cell_of_one o1
  have c2 := cell_of_one o2
  rw [← hm] at c1
  have Hb := Lib.hid hb
  clear hin h h2 o1 o2 hm hb
  have HW2 := Lib.hid hW2
  clear hW2
  go_enter Try.func30, Try.ntmps30
  go_upto_region 1 with fail
  rw [← HW2.out]
  go_wp2_with fail
  go_ret
  exact ⟨rfl, Hb.out.alloc Hb.out.size _⟩
set_option maxRecDepth 100000 in
theorem note_new (h : SetC w s g gs gs) (f : Fin 4) (hf : f ≠ 1) (a : ByteArray) (hin : Value.string a ∉ keysOf f (absL gs)) (hlen : gs.length < 1000000) :
    Calls Try.prog 30 #[.pointer (some ⟨s, 0, none⟩), .map (some (g.maps f)), Value.string a] w fun e w' => e = .returned (.bool false) ∧ Turns w s (foot s g gs gs) (absL gs ++ [.key f (Value.string a)]) w' := by
  obtain ⟨W2, hW2⟩ : ∃ W2, W2 = (w.alloc (.cells #[.map (some (g.maps f))] 60 (0, 0))).alloc (.cells #[.string a] 9 (0, 0)) := ⟨_, rfl⟩
  obtain ⟨o1, o2, hb⟩ := boxes2 w _ _ _ hW2
  have h2 := h.below hb
  have hok : okK f (Value.string a) := (by unfold okK; rw [if_neg hf]; exact ⟨a, rfl⟩)
  have hl := (h2.map f).hasnt (keys_of f) (keysOf_ok h2 f) (k := Value.string a) hok hin
  have hM : tM f = 60 := by unfold tM; rw [if_neg hf]
  have hK : tK f = 9 := by unfold tK; rw [if_neg hf]
  have hF : fK f = 46 := by unfold fK; rw [if_neg hf]
  obtain ⟨W4, b', cap', W5, r1, r2, r3, r4, r5⟩ := note_world h hok hin hlen 62 W2 (by rw [hM, hK]; exact hW2)
  rw [hM] at hl r1
  rw [hF] at r3
  obtain ⟨m, hm⟩ : ∃ m, m = g.maps f := ⟨_, rfl⟩
  rw [← hm] at hl hW2 r1 ⊢
  have HR := Lib.hid r5
  obtain ⟨W3, hW3⟩ : ∃ W3, W3 = W2.alloc (.cells #[] 69 (0, 0)) := ⟨_, rfl⟩
  have hs2 : W2.heap.size = w.heap.size + 1 + 1 := by rw [hW2, World.size_alloc, World.size_alloc]
  have p1 : W3.heap[w.heap.size]? = W2.heap[w.heap.size]? := by rw [hW3]; exact heap_alloc_old _ _ (by omega)
  have p2 : W3.heap[w.heap.size + 1]? = W2.heap[w.heap.size + 1]? := by rw [hW3]; exact heap_alloc_old _ _ (by omega)
  have c1 := cell_of_one o1
  have c2 := cell_of_one o2
  rw [← hm] at c1
  have d1 := cell_of_one (p1.trans o1)
  have d2 := cell_of_one (p2.trans o2)
  rw [← hm] at d1
  have e6 : W4.cell? ⟨s, 6, none⟩ = some (.slice (g.ub.map fun b => ⟨b, 0, none⟩) gs.length g.ucap) := by rw [cell_of_row _ _ _ _ _ _ r2]; rfl
  have r2' := r4.trans r2
  have f6 : W5.cell? ⟨s, 6, none⟩ = some (.slice (g.ub.map fun b => ⟨b, 0, none⟩) gs.length g.ucap) := by rw [cell_of_row _ _ _ _ _ _ r2']; rfl
  have f6f : W5.frozen? ⟨s, 6, none⟩ = false := frozen_of_row _ _ _ _ _ r2'
  obtain ⟨ua, hua⟩ : ∃ ua : Option Addr, ua = g.ub.map fun b => ⟨b, 0, none⟩ := ⟨_, rfl⟩
  obtain ⟨n, hn⟩ : ∃ n, n = gs.length := ⟨_, rfl⟩
  rw [← hua, ← hn] at e6 r3 f6
  rw [← hn] at HR
  rw [← hW3] at r1
  have Hput := Lib.hid r1
  have Happ := Lib.hid r3
  have HW2 := Lib.hid hW2
  have HW3 := Lib.hid hW3
  clear hin h h2 o1 o2 hm hb hok hM hK hF r1 r2 r3 r4 r5 r2' p1 p2 hs2 hW2 hW3 hua hn hlen
  go_enter Try.func30, Try.ntmps30
  go_upto_region 1 with fail
  rw [← HW2.out]
  go_upto_region 3 with fail
  rw [← HW3.out]
  have r1 := Hput.out
  go_upto_region 4 with fail
  clear r1
  go_wp2_with (at_builtin; refine wpList_append_run _ _ 62 62 _ _ _ W5 (by rfl) (by rfl) Happ.out ?_; go_frame)
  go_ret
  exact ⟨rfl, HR.out⟩
set_option maxRecDepth 100000 in
theorem slot_had (h : SetC w s g gs gs) (a : ByteArray) (k : W4) (hok1 : SlotOk (slotV a k)) (hin : slotV a k ∈ keysOf 1 (absL gs)) :
    Calls Try.prog 29 #[.pointer (some ⟨s, 0, none⟩), .map (some (g.maps 1)), .agg #[.string a, .int .u64 k.a, .int .u64 k.b, .int .u64 k.c, .int .u64 k.d]] w fun e w' => e = .returned (.bool true) ∧ Below w.heap.size w w' := by
  obtain ⟨W2, hW2⟩ : ∃ W2, W2 = (w.alloc (.cells #[.map (some (g.maps 1))] 61 (0, 0))).alloc (.cells #[.string a, .int .u64 k.a, .int .u64 k.b, .int .u64 k.c, .int .u64 k.d] 67 (0, 0)) := ⟨_, rfl⟩
  obtain ⟨o1, o2, hb⟩ := boxes2 w _ _ _ hW2
  have h2 := h.below hb
  have hl := (h2.map 1).has (keys_of 1) (keysOf_ok h2 1) (k := slotV a k) (by unfold okK; rw [if_pos rfl]; exact hok1) hin
  rw [show tM 1 = 61 by unfold tM; rw [if_pos rfl]] at hl
  unfold slotV at hl
  obtain ⟨m, hm⟩ : ∃ m, m = g.maps 1 := ⟨_, rfl⟩
  rw [← hm] at hl hW2 ⊢
  have c1 := cell_of_one o1
  have c20 : W2.cell? ⟨w.heap.size + 1, 0, none⟩ = some (.string a) := by rw [cell_of_row _ _ _ _ _ _ o2]; rfl
  have c21 : W2.cell? ⟨w.heap.size + 1, 1, none⟩ = some (.int .u64 k.a) := by rw [cell_of_row _ _ _ _ _ _ o2]; rfl
  have c22 : W2.cell? ⟨w.heap.size + 1, 2, none⟩ = some (.int .u64 k.b) := by rw [cell_of_row _ _ _ _ _ _ o2]; rfl
  have c23 : W2.cell? ⟨w.heap.size + 1, 3, none⟩ = some (.int .u64 k.c) := by rw [cell_of_row _ _ _ _ _ _ o2]; rfl
  have c24 : W2.cell? ⟨w.heap.size + 1, 4, none⟩ = some (.int .u64 k.d) := by rw [cell_of_row _ _ _ _ _ _ o2]; rfl
  rw [← hm] at c1
  have Hb := Lib.hid hb
  clear hok1 hin h h2 o1 o2 hm hb
  have HW2 := Lib.hid hW2
  clear hW2
  go_enter Try.func29, Try.ntmps29
  go_upto_region 1 with fail
  rw [← HW2.out]
  go_wp2_with fail
  go_ret
  exact ⟨rfl, Hb.out.alloc Hb.out.size _⟩
set_option maxRecDepth 100000 in
theorem slot_new (h : SetC w s g gs gs) (a : ByteArray) (k : W4) (hok1 : SlotOk (slotV a k)) (hin : slotV a k ∉ keysOf 1 (absL gs)) (hlen : gs.length < 1000000) :
    Calls Try.prog 29 #[.pointer (some ⟨s, 0, none⟩), .map (some (g.maps 1)), .agg #[.string a, .int .u64 k.a, .int .u64 k.b, .int .u64 k.c, .int .u64 k.d]] w fun e w' => e = .returned (.bool false) ∧ Turns w s (foot s g gs gs) (absL gs ++ [.key 1 (slotV a k)]) w' := by
  obtain ⟨W2, hW2⟩ : ∃ W2, W2 = (w.alloc (.cells #[.map (some (g.maps 1))] 61 (0, 0))).alloc (.cells #[.string a, .int .u64 k.a, .int .u64 k.b, .int .u64 k.c, .int .u64 k.d] 67 (0, 0)) := ⟨_, rfl⟩
  obtain ⟨o1, o2, hb⟩ := boxes2 w _ _ _ hW2
  have h2 := h.below hb
  have hok : okK 1 (slotV a k) := (by unfold okK; rw [if_pos rfl]; exact hok1)
  have hl := (h2.map 1).hasnt (keys_of 1) (keysOf_ok h2 1) (k := slotV a k) hok hin
  have hM : tM 1 = 61 := by unfold tM; rw [if_pos rfl]
  have hK : tK 1 = 67 := by unfold tK; rw [if_pos rfl]
  have hF : fK 1 = 45 := by unfold fK; rw [if_pos rfl]
  obtain ⟨W4, b', cap', W5, r1, r2, r3, r4, r5⟩ := note_world h hok hin hlen 62 W2 (by rw [hM, hK]; exact hW2)
  rw [hM] at hl r1
  unfold slotV at hl r1
  rw [hF] at r3
  obtain ⟨m, hm⟩ : ∃ m, m = g.maps 1 := ⟨_, rfl⟩
  rw [← hm] at hl hW2 r1 ⊢
  have HR := Lib.hid r5
  obtain ⟨W3, hW3⟩ : ∃ W3, W3 = W2.alloc (.cells #[] 69 (0, 0)) := ⟨_, rfl⟩
  have hs2 : W2.heap.size = w.heap.size + 1 + 1 := by rw [hW2, World.size_alloc, World.size_alloc]
  have p1 : W3.heap[w.heap.size]? = W2.heap[w.heap.size]? := by rw [hW3]; exact heap_alloc_old _ _ (by omega)
  have p2 : W3.heap[w.heap.size + 1]? = W2.heap[w.heap.size + 1]? := by rw [hW3]; exact heap_alloc_old _ _ (by omega)
  have c1 := cell_of_one o1
  have c20 : W2.cell? ⟨w.heap.size + 1, 0, none⟩ = some (.string a) := by rw [cell_of_row _ _ _ _ _ _ o2]; rfl
  have c21 : W2.cell? ⟨w.heap.size + 1, 1, none⟩ = some (.int .u64 k.a) := by rw [cell_of_row _ _ _ _ _ _ o2]; rfl
  have c22 : W2.cell? ⟨w.heap.size + 1, 2, none⟩ = some (.int .u64 k.b) := by rw [cell_of_row _ _ _ _ _ _ o2]; rfl
  have c23 : W2.cell? ⟨w.heap.size + 1, 3, none⟩ = some (.int .u64 k.c) := by rw [cell_of_row _ _ _ _ _ _ o2]; rfl
  have c24 : W2.cell? ⟨w.heap.size + 1, 4, none⟩ = some (.int .u64 k.d) := by rw [cell_of_row _ _ _ _ _ _ o2]; rfl
  rw [← hm] at c1
  have d1 := cell_of_one (p1.trans o1)
  have d20 : W3.cell? ⟨w.heap.size + 1, 0, none⟩ = some (.string a) := by rw [cell_of_row _ _ _ _ _ _ (p2.trans o2)]; rfl
  have d21 : W3.cell? ⟨w.heap.size + 1, 1, none⟩ = some (.int .u64 k.a) := by rw [cell_of_row _ _ _ _ _ _ (p2.trans o2)]; rfl
  have d22 : W3.cell? ⟨w.heap.size + 1, 2, none⟩ = some (.int .u64 k.b) := by rw [cell_of_row _ _ _ _ _ _ (p2.trans o2)]; rfl
  have d23 : W3.cell? ⟨w.heap.size + 1, 3, none⟩ = some (.int .u64 k.c) := by rw [cell_of_row _ _ _ _ _ _ (p2.trans o2)]; rfl
  have d24 : W3.cell? ⟨w.heap.size + 1, 4, none⟩ = some (.int .u64 k.d) := by rw [cell_of_row _ _ _ _ _ _ (p2.trans o2)]; rfl
  rw [← hm] at d1
  have e6 : W4.cell? ⟨s, 6, none⟩ = some (.slice (g.ub.map fun b => ⟨b, 0, none⟩) gs.length g.ucap) := by rw [cell_of_row _ _ _ _ _ _ r2]; rfl
  have r2' := r4.trans r2
  have f6 : W5.cell? ⟨s, 6, none⟩ = some (.slice (g.ub.map fun b => ⟨b, 0, none⟩) gs.length g.ucap) := by rw [cell_of_row _ _ _ _ _ _ r2']; rfl
  have f6f : W5.frozen? ⟨s, 6, none⟩ = false := frozen_of_row _ _ _ _ _ r2'
  obtain ⟨ua, hua⟩ : ∃ ua : Option Addr, ua = g.ub.map fun b => ⟨b, 0, none⟩ := ⟨_, rfl⟩
  obtain ⟨n, hn⟩ : ∃ n, n = gs.length := ⟨_, rfl⟩
  rw [← hua, ← hn] at e6 r3 f6
  rw [← hn] at HR
  rw [← hW3] at r1
  have Hput := Lib.hid r1
  have Happ := Lib.hid r3
  have HW2 := Lib.hid hW2
  have HW3 := Lib.hid hW3
  clear hok1 hin h h2 o1 o2 hm hb hok hM hK hF r1 r2 r3 r4 r5 r2' p1 p2 hs2 hW2 hW3 hua hn hlen
  go_enter Try.func29, Try.ntmps29
  go_upto_region 1 with fail
  rw [← HW2.out]
  go_upto_region 3 with fail
  rw [← HW3.out]
  have r1 := Hput.out
  go_upto_region 4 with fail
  clear r1
  go_wp2_with (at_builtin; refine wpList_append_run _ _ 62 62 _ _ _ W5 (by rfl) (by rfl) Happ.out ?_; go_frame)
  go_ret
  exact ⟨rfl, HR.out⟩
end
end Go.Proofs.Ytgjaennilkhejaa
