/- The walks of Add, swap, Mend, Replace, All, Whole. The bounds: a name has at most 1000 bytes; a text no more than Go lets it have. -/
import Derived.Test.YtmjeanbbhacnaaaRecDeeds
namespace Go.Proofs.Ytmjeanbbhacnaaa
open Go.RowKit
theorem Turns.from_below {w w1 w2 : World} {d : Nat} {F : Nat → Prop} {st' : St} (hb : Below w.heap.size w w1) (h : Turns w1 d F st' w2) : Turns w d F st' w2 := by
  obtain ⟨F2, k1, k2⟩ := h
  exact ⟨F2, k1, (Eff.below hb).trans k2⟩
theorem frame_size (s : ByteArray) (hs : s.size ≤ 65536) : (⟨(frameL s.data.toList).toArray⟩ : ByteArray).size ≤ 281474976710656 := by
  show (frameL _).toArray.size ≤ _
  rw [List.size_toArray, frameL_length, list_size]; omega
set_option maxRecDepth 100000 in
set_option maxHeartbeats 800000 in
theorem add_at {w : World} {d : Nat} {F : Nat → Prop} {st : St} (h : At w d st F) (n s : ByteArray) :
    Calls Try.prog 41 #[.pointer (some ⟨d, 0, none⟩), .string n, .string s] w fun e w' => e = .returned (.int .i64 (St.add n s.data.toList st).2) ∧ Turns w d F (St.add n s.data.toList st).1 w' := by
  obtain ⟨W2, hW2⟩ : ∃ W2, W2 = (w.alloc (.cells #[.pointer (some ⟨d, 0, none⟩)] 23 (0, 0))).alloc (.cells #[.string n] 9 (0, 0)) := ⟨_, rfl⟩
  obtain ⟨o1, o2, hb⟩ := boxes2 w _ _ _ hW2
  have hmf : ∀ fn first cap w, (Instr.makeFunc fn first cap).run Try.prog w = .ok (.func fn first cap) w := fun _ _ _ _ => rfl
  have hls := list_size s
  by_cases hs : (65536 : Int) < s.size
  · have hst : St.add n s.data.toList st = (st, 3) := by unfold St.add; rw [if_pos (by omega)]
    rw [hst]
    have hf := frame_long s hs
    have Hf := Lib.hid hf
    have HH := Lib.hid (And.intro h (And.intro hb hW2))
    clear hf h hb o1 o2 hst hW2
    go_enter Try.func41, Try.ntmps41
    go_upto_region 1 with fail
    rw [← HH.out.2.2]
    go_wp2_with fail
    refine (Hf.out _).mono ?_
    rintro e w1 ⟨rfl, rfl⟩
    go_wp2_with fail
    go_ret
    exact ⟨rfl, Turns.of_below HH.out.1 (HH.out.2.1.alloc HH.out.2.1.size _)⟩
  · have hst : St.add n s.data.toList st = St.until [St.app n (frameL s.data.toList), St.sync n] st := by unfold St.add; rw [if_neg (by omega)]
    rw [hst]
    obtain ⟨res, hres⟩ : ∃ r, r = St.until [St.app n (frameL s.data.toList), St.sync n] st := ⟨_, rfl⟩
    rw [← hres]
    have Hres := Lib.hid hres
    clear hres
    have hf := frame_any s (by omega)
    obtain ⟨X, hX⟩ : ∃ X : ByteArray, X = ⟨(frameL s.data.toList).toArray⟩ := ⟨_, rfl⟩
    have hXl : X.data.toList = frameL s.data.toList := by rw [hX]
    have hXs : X.size ≤ 281474976710656 := by rw [hX]; exact frame_size s (by omega)
    rw [← hX] at hf
    have Hf := Lib.hid hf
    have HH := Lib.hid (And.intro h (And.intro hb (And.intro o1 (And.intro o2 (And.intro hXl (And.intro hXs hW2))))))
    clear hf h hb o1 o2 hst hX hXl hXs hW2 hls
    go_enter Try.func41, Try.ntmps41
    go_upto_region 1 with fail
    rw [← HH.out.2.2.2.2.2.2]
    go_wp2_with fail
    refine (Hf.out _).mono ?_
    rintro e w1 ⟨rfl, hb1⟩
    have Hb1 := Lib.hid hb1
    clear hb1 Hf
    go_wp2_with fail
    obtain ⟨h, hb, o1, o2, hXl, hXs, _⟩ := HH.out
    have hb1 := Hb1.out
    obtain ⟨W5, hW5⟩ : ∃ W5, W5 = (w1.alloc (.cells #[.string X] 9 (0, 0))).alloc (.cells (rowOf [(69, #[.pointer (some ⟨w.heap.size, 0, none⟩), .pointer (some ⟨w.heap.size + 1, 0, none⟩), .pointer (some ⟨w1.heap.size, 0, none⟩)]), (70, #[.pointer (some ⟨w.heap.size, 0, none⟩), .pointer (some ⟨w.heap.size + 1, 0, none⟩)])]) 75 (0, 0)) := ⟨_, rfl⟩
    obtain ⟨o3, o4, hb5⟩ := boxes2 w1 _ _ _ hW5
    have hbw : Below w.heap.size w W5 := (hb.trans (hb1.mono hb.size)).trans (hb5.mono (Nat.le_trans hb.size hb1.size))
    have hb25 : Below W2.heap.size W2 W5 := hb1.trans (hb5.mono hb1.size)
    have p1 := (hb25.block _ (lt_of_block o1)).trans o1
    have p2 := (hb25.block _ (lt_of_block o2)).trans o2
    have hA5 : At W5 d st F := h.kept fun k hk => hbw.block k (h.lt hk)
    have hu := until_at hA5 (w1.heap.size + 1) [(69, #[.pointer (some ⟨w.heap.size, 0, none⟩), .pointer (some ⟨w.heap.size + 1, 0, none⟩), .pointer (some ⟨w1.heap.size, 0, none⟩)], St.app n (frameL s.data.toList)), (70, #[.pointer (some ⟨w.heap.size, 0, none⟩), .pointer (some ⟨w.heap.size + 1, 0, none⟩)], St.sync n)] o4 (by
      intro x hx
      simp only [List.mem_cons, List.not_mem_nil, or_false] at hx
      rcases hx with rfl | rfl
      · refine ⟨call69, ?_⟩
        have := does_add1 p1 p2 o3 hXs
        rw [hXl] at this
        exact this
      · exact ⟨call70, does_add2 p1 p2⟩) (by simp) 2
    have hu2 := hu.mono (R' := fun e w' => e = Ending.returned (.int .i64 (St.until [St.app n (frameL s.data.toList), St.sync n] st).2) ∧ Turns w d F (St.until [St.app n (frameL s.data.toList), St.sync n] st).1 w') (fun e w' hx => ⟨hx.1, Turns.from_below hbw hx.2⟩)
    rw [hW5] at hu2
    rw [← Hres.out] at hu2
    have Hu := Lib.hid hu2
    clear hu hu2 hA5 p1 p2 hb25 hbw o3 o4 hb5 hW5 hb1 h hb o1 o2 hXl hXs
    refine Hu.out.mono ?_
    rintro e w9 ⟨rfl, ht⟩
    have Ht := Lib.hid ht
    clear ht
    go_wp2_with fail
    go_ret
    exact ⟨rfl, Ht.out⟩
end Go.Proofs.Ytmjeanbbhacnaaa
