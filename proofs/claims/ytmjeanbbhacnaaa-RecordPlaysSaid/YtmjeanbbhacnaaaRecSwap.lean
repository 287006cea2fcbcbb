/- The walk of swap. The bounds: a name has at most 1000 bytes; a text no more than Go lets it have. -/
import Derived.Test.YtmjeanbbhacnaaaRecApi
import Derived.Laws.Closers25
namespace Go.Proofs.Ytmjeanbbhacnaaa
open Go.RowKit
set_option maxRecDepth 100000 in
set_option maxHeartbeats 800000 in
theorem swap_at {w : World} {d : Nat} {F : Nat → Prop} {st : St} (h : At w d st F) (n s : ByteArray) (hn : (n.size : Int) ≤ 1000) (hs : s.size ≤ 281474976710656) :
    Calls Try.prog 71 #[.pointer (some ⟨d, 0, none⟩), .string n, .string s] w fun e w' => e = .returned (.int .i64 (St.swap n s.data.toList st).2) ∧ Turns w d F (St.swap n s.data.toList st).1 w' := by
  obtain ⟨W3, hW3⟩ : ∃ W3, W3 = ((w.alloc (.cells #[.pointer (some ⟨d, 0, none⟩)] 23 (0, 0))).alloc (.cells #[.string n] 9 (0, 0))).alloc (.cells #[.string s] 9 (0, 0)) := ⟨_, rfl⟩
  obtain ⟨o1, o2, o3, hb⟩ := boxes w _ _ _ _ hW3
  have c3 := cell_of_one o3
  have hmf : ∀ fn first cap w, (Instr.makeFunc fn first cap).run Try.prog w = .ok (.func fn first cap) w := fun _ _ _ _ => rfl
  by_cases hse : s = ⟨#[]⟩
  · subst hse
    have hst : St.swap n (⟨#[]⟩ : ByteArray).data.toList st = St.until [St.clean n, St.del n] st := by unfold St.swap; rw [if_pos rfl]
    rw [hst]
    obtain ⟨res, hres⟩ : ∃ r, r = St.until [St.clean n, St.del n] st := ⟨_, rfl⟩
    rw [← hres]
    have HH := Lib.hid (And.intro h (And.intro hb (And.intro o1 (And.intro o2 (And.intro hres hW3)))))
    clear h hb o1 o2 o3 hst hres hW3
    go_enter Try.func71, Try.ntmps71
    go_upto_region 1 with fail
    rw [← HH.out.2.2.2.2.2]
    go_wp2_with fail
    obtain ⟨h, hb, o1, o2, hres, _⟩ := HH.out
    obtain ⟨W4, hW4⟩ : ∃ W4, W4 = W3.alloc (.cells (rowOf [(85, #[.pointer (some ⟨w.heap.size, 0, none⟩), .pointer (some ⟨w.heap.size + 1, 0, none⟩)]), (86, #[.pointer (some ⟨w.heap.size, 0, none⟩), .pointer (some ⟨w.heap.size + 1, 0, none⟩)])]) 75 (0, 0)) := ⟨_, rfl⟩
    have o4 : W4.heap[W3.heap.size]? = some (.cells (rowOf [(85, #[.pointer (some ⟨w.heap.size, 0, none⟩), .pointer (some ⟨w.heap.size + 1, 0, none⟩)]), (86, #[.pointer (some ⟨w.heap.size, 0, none⟩), .pointer (some ⟨w.heap.size + 1, 0, none⟩)])]) 75 (0, 0)) := by rw [hW4]; exact heap_alloc_new W3 _
    have hb34 : Below W3.heap.size W3 W4 := by rw [hW4]; exact (Below.refl _ _).alloc (Nat.le_refl _) _
    have hbw : Below w.heap.size w W4 := hb.trans (hb34.mono hb.size)
    have p1 := (hb34.block _ (lt_of_block o1)).trans o1
    have p2 := (hb34.block _ (lt_of_block o2)).trans o2
    have hA5 : At W4 d st F := h.kept fun k hk => hbw.block k (h.lt hk)
    have hu := until_at hA5 W3.heap.size [(85, #[.pointer (some ⟨w.heap.size, 0, none⟩), .pointer (some ⟨w.heap.size + 1, 0, none⟩)], St.clean n), (86, #[.pointer (some ⟨w.heap.size, 0, none⟩), .pointer (some ⟨w.heap.size + 1, 0, none⟩)], St.del n)] o4 (by
      intro x hx
      simp only [List.mem_cons, List.not_mem_nil, or_false] at hx
      rcases hx with rfl | rfl
      · exact ⟨call85, does_swap1 p1 p2 hn⟩
      · exact ⟨call86, does_swap2 p1 p2⟩) (by simp) 2
    have hu2 := hu.mono (R' := fun e w' => e = Ending.returned (.int .i64 (St.until [St.clean n, St.del n] st).2) ∧ Turns w d F (St.until [St.clean n, St.del n] st).1 w') (fun e w' hx => ⟨hx.1, Turns.from_below hbw hx.2⟩)
    rw [hW4, ← hres] at hu2
    have Hu := Lib.hid hu2
    clear hu hu2 hA5 p1 p2 hb34 hbw o4 hW4 h hb o1 o2 hres
    refine Hu.out.mono ?_
    rintro e w9 ⟨rfl, ht⟩
    have Ht := Lib.hid ht
    clear ht
    go_wp2_with fail
    go_ret
    exact ⟨rfl, Ht.out⟩
  · have hemp : s.toList.isEmpty = false := by rw [← decide_eq_emptyBytes]; exact decide_eq_false hse
    have hsl : s.data.toList ≠ [] := fun e => hse (by
      apply ByteArray.ext
      exact Array.toList_inj.1 e)
    have hst : St.swap n s.data.toList st = St.until [St.clean n, St.app (newName n) s.data.toList, St.sync (newName n), St.ren (newName n) n] st := by unfold St.swap; rw [if_neg hsl]
    rw [hst]
    obtain ⟨res, hres⟩ : ∃ r, r = St.until [St.clean n, St.app (newName n) s.data.toList, St.sync (newName n), St.ren (newName n) n] st := ⟨_, rfl⟩
    rw [← hres]
    have HH := Lib.hid (And.intro h (And.intro hb (And.intro o1 (And.intro o2 (And.intro o3 (And.intro hres hW3))))))
    clear h hb o1 o2 o3 hst hres hW3 hsl
    go_enter Try.func71, Try.ntmps71
    go_upto_region 1 with fail
    rw [← HH.out.2.2.2.2.2.2]
    go_wp2_with fail
    obtain ⟨h, hb, o1, o2, o3, hres, _⟩ := HH.out
    obtain ⟨W4, hW4⟩ : ∃ W4, W4 = W3.alloc (.cells (rowOf [(85, #[.pointer (some ⟨w.heap.size, 0, none⟩), .pointer (some ⟨w.heap.size + 1, 0, none⟩)]), (87, #[.pointer (some ⟨w.heap.size, 0, none⟩), .pointer (some ⟨w.heap.size + 1, 0, none⟩), .pointer (some ⟨w.heap.size + 1 + 1, 0, none⟩)]), (88, #[.pointer (some ⟨w.heap.size, 0, none⟩), .pointer (some ⟨w.heap.size + 1, 0, none⟩)]), (89, #[.pointer (some ⟨w.heap.size, 0, none⟩), .pointer (some ⟨w.heap.size + 1, 0, none⟩)])]) 75 (0, 0)) := ⟨_, rfl⟩
    have o4 : W4.heap[W3.heap.size]? = some (.cells (rowOf [(85, #[.pointer (some ⟨w.heap.size, 0, none⟩), .pointer (some ⟨w.heap.size + 1, 0, none⟩)]), (87, #[.pointer (some ⟨w.heap.size, 0, none⟩), .pointer (some ⟨w.heap.size + 1, 0, none⟩), .pointer (some ⟨w.heap.size + 1 + 1, 0, none⟩)]), (88, #[.pointer (some ⟨w.heap.size, 0, none⟩), .pointer (some ⟨w.heap.size + 1, 0, none⟩)]), (89, #[.pointer (some ⟨w.heap.size, 0, none⟩), .pointer (some ⟨w.heap.size + 1, 0, none⟩)])]) 75 (0, 0)) := by rw [hW4]; exact heap_alloc_new W3 _
    have hb34 : Below W3.heap.size W3 W4 := by rw [hW4]; exact (Below.refl _ _).alloc (Nat.le_refl _) _
    have hbw : Below w.heap.size w W4 := hb.trans (hb34.mono hb.size)
    have p1 := (hb34.block _ (lt_of_block o1)).trans o1
    have p2 := (hb34.block _ (lt_of_block o2)).trans o2
    have p3 := (hb34.block _ (lt_of_block o3)).trans o3
    have hA5 : At W4 d st F := h.kept fun k hk => hbw.block k (h.lt hk)
    have hu := until_at hA5 W3.heap.size [(85, #[.pointer (some ⟨w.heap.size, 0, none⟩), .pointer (some ⟨w.heap.size + 1, 0, none⟩)], St.clean n), (87, #[.pointer (some ⟨w.heap.size, 0, none⟩), .pointer (some ⟨w.heap.size + 1, 0, none⟩), .pointer (some ⟨w.heap.size + 1 + 1, 0, none⟩)], St.app (newName n) s.data.toList), (88, #[.pointer (some ⟨w.heap.size, 0, none⟩), .pointer (some ⟨w.heap.size + 1, 0, none⟩)], St.sync (newName n)), (89, #[.pointer (some ⟨w.heap.size, 0, none⟩), .pointer (some ⟨w.heap.size + 1, 0, none⟩)], St.ren (newName n) n)] o4 (by
      intro x hx
      simp only [List.mem_cons, List.not_mem_nil, or_false] at hx
      rcases hx with rfl | rfl | rfl | rfl
      · exact ⟨call85, does_swap1 p1 p2 hn⟩
      · exact ⟨call87, does_swap3 p1 p2 p3 hn hs⟩
      · exact ⟨call88, does_swap4 p1 p2 hn⟩
      · exact ⟨call89, does_swap5 p1 p2 hn⟩) (by simp) 4
    have hu2 := hu.mono (R' := fun e w' => e = Ending.returned (.int .i64 (St.until [St.clean n, St.app (newName n) s.data.toList, St.sync (newName n), St.ren (newName n) n] st).2) ∧ Turns w d F (St.until [St.clean n, St.app (newName n) s.data.toList, St.sync (newName n), St.ren (newName n) n] st).1 w') (fun e w' hx => ⟨hx.1, Turns.from_below hbw hx.2⟩)
    rw [hW4, ← hres] at hu2
    have Hu := Lib.hid hu2
    clear hu hu2 hA5 p1 p2 p3 hb34 hbw o4 hW4 h hb o1 o2 o3 hres
    refine Hu.out.mono ?_
    rintro e w9 ⟨rfl, ht⟩
    have Ht := Lib.hid ht
    clear ht
    go_wp2_with fail
    go_ret
    exact ⟨rfl, Ht.out⟩
end Go.Proofs.Ytmjeanbbhacnaaa
