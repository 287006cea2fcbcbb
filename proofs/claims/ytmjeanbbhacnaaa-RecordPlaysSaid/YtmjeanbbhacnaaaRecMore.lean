/- The walks of Replace, Mend, All, Whole. The bound: a name has at most 1000 bytes. -/
import Derived.Test.YtmjeanbbhacnaaaRecSwap
namespace Go.Proofs.Ytmjeanbbhacnaaa
open Go.RowKit
theorem rdText_size {st : St} (h : st.Small) (n : ByteArray) : (rdText st.files n).size ≤ 1099511627776 := by
  unfold rdText
  cases hg : fget st.files n with
  | none => exact Nat.zero_le _
  | some f =>
    obtain ⟨hm, _⟩ := fget_some hg
    have : f.bytes.length ≤ ftotal st.files := by
      obtain ⟨r, hr⟩ := split_of hm
      rw [ftotal_perm hr, ftotal_cons]; omega
    have := h.total
    show f.bytes.toArray.size ≤ _
    rw [List.size_toArray]; omega
theorem At.small {w : World} {d : Nat} {st : St} {F : Nat → Prop} (h : At w d st F) : st.Small := by
  obtain ⟨_, _, _, _, _, _, h4⟩ := h; exact h4
theorem rdL_of (st : St) (n : ByteArray) : (rdText st.files n).data.toList = rdL st n := rfl
theorem framesL_size (l : List UInt8) : ∃ p, Fr l (framesL l) p ∧ p = fsize (framesL l) ∧ p ≤ l.length := by
  have key : ∀ f ts p, Fr l ts p → l.length < f + ts.length → ∃ p', Fr l (ts ++ framesF f (l.drop p)) p' := by
    intro f
    induction f with
    | zero =>
      intro ts p h hl
      have := h.size
      omega
    | succ f ih =>
      intro ts p h hl
      show ∃ p', Fr l (ts ++ (match oneL (l.drop p) with | none => [] | some t => t :: framesF f ((l.drop p).drop (t.length + 8)))) p'
      cases ho : oneL (l.drop p) with
      | none => exact ⟨p, by rw [List.append_nil]; exact h⟩
      | some t =>
        obtain ⟨p', hp'⟩ := ih (ts ++ [t]) (p + (t.length + 8)) (h.snoc ho) (by rw [List.length_append]; simp only [List.length_cons, List.length_nil]; omega)
        refine ⟨p', ?_⟩
        show Fr l (ts ++ (t :: framesF f ((l.drop p).drop (t.length + 8)))) p'
        rw [List.drop_drop, show ts ++ t :: framesF f (l.drop (p + (t.length + 8))) = ts ++ [t] ++ framesF f (l.drop (p + (t.length + 8))) by simp]
        exact hp'
  obtain ⟨p, hp⟩ := key (l.length + 1) [] 0 Fr.nil (by simp)
  rw [List.drop_zero, List.nil_append] at hp
  exact ⟨p, hp, hp.size.1, hp.size.2.1⟩
section
variable {w : World} {d : Nat} {F : Nat → Prop} {st : St}
set_option maxRecDepth 100000 in
theorem replace_at (h : At w d st F) (n s : ByteArray) (hn : (n.size : Int) ≤ 1000) :
    Calls Try.prog 43 #[.pointer (some ⟨d, 0, none⟩), .string n, .string s] w fun e w' => e = .returned (.int .i64 (St.replace n s.data.toList st).2) ∧ Turns w d F (St.replace n s.data.toList st).1 w' := by
  have hls := list_size s
  by_cases hs : (65536 : Int) < s.size
  · have hst : St.replace n s.data.toList st = (st, 3) := by unfold St.replace; rw [if_pos (by omega)]
    rw [hst]
    have Hf := Lib.hid (frame_long s hs)
    have HH := Lib.hid h
    clear h hst
    go_enter Try.func43, Try.ntmps43
    go_wp2_with fail
    refine (Hf.out _).mono ?_
    rintro e w1 ⟨rfl, rfl⟩
    go_wp2_with fail
    go_ret
    exact ⟨rfl, Turns.refl HH.out⟩
  · have hst : St.replace n s.data.toList st = St.swap n (frameL s.data.toList) st := by unfold St.replace; rw [if_neg (by omega)]
    rw [hst]
    obtain ⟨res, hres⟩ : ∃ r, r = St.swap n (frameL s.data.toList) st := ⟨_, rfl⟩
    rw [← hres]
    have hf := frame_any s (by omega)
    obtain ⟨X, hX⟩ : ∃ X : ByteArray, X = ⟨(frameL s.data.toList).toArray⟩ := ⟨_, rfl⟩
    have hXl : X.data.toList = frameL s.data.toList := by rw [hX]
    have hXs : X.size ≤ 281474976710656 := by rw [hX]; exact frame_size s (by omega)
    rw [← hX] at hf
    have hsw : ∀ w1, Below w.heap.size w w1 → Calls Try.prog 71 #[.pointer (some ⟨d, 0, none⟩), .string n, .string X] w1 fun e w' => e = .returned (.int .i64 res.2) ∧ Turns w d F res.1 w' := fun w1 hb => by
      have hA1 : At w1 d st F := h.kept fun k hk => hb.block k (h.lt hk)
      refine (swap_at hA1 n X hn hXs).mono ?_
      rintro e w' ⟨rfl, ht⟩
      rw [hres, ← hXl]
      exact ⟨rfl, Turns.from_below hb ht⟩
    have Hf := Lib.hid (And.intro hf hsw)
    clear hf hsw h hst hX hXl hXs hls hres
    go_enter Try.func43, Try.ntmps43
    go_wp2_with fail
    refine (Hf.out.1 _).mono ?_
    rintro e w1 ⟨rfl, hb1⟩
    go_wp2_with fail
    refine (Hf.out.2 _ hb1).mono ?_
    rintro e w2 ⟨rfl, ht⟩
    have Ht := Lib.hid ht
    clear ht
    go_wp2_with fail
    go_ret
    exact ⟨rfl, Ht.out⟩
set_option maxRecDepth 100000 in
theorem all_at (h : At w d st F) (n : ByteArray) :
    Calls Try.prog 31 #[.pointer (some ⟨d, 0, none⟩), .string n] w fun e w' => ∃ (gb : Option Nat) (cap : Nat) (ns : List ByteArray),
      e = .returned (.slice (gb.map fun b => ⟨b, 0, none⟩) ns.length cap) ∧ (SRowO w' gb cap ns ∧ ns.map (·.data.toList) = framesL (rdL st n) ∧ (∀ b, gb = some b → w.heap.size ≤ b)) ∧ Below w.heap.size w w' := by
  have hread := read_at h n
  obtain ⟨X, hX⟩ : ∃ X, X = rdText st.files n := ⟨_, rfl⟩
  have hXs : X.size ≤ 1099511627776 := by rw [hX]; exact rdText_size h.small n
  have hXl : X.data.toList = rdL st n := by rw [hX]; rfl
  rw [← hX] at hread
  have hfr := frames_any X hXs
  rw [hXl] at hfr
  have H := Lib.hid (And.intro hread hfr)
  clear hread hfr hX hXs hXl h
  go_enter Try.func31, Try.ntmps31
  go_wp2_with fail
  refine H.out.1.mono ?_
  rintro e w1 ⟨rfl, rfl⟩
  go_wp2_with fail
  refine (H.out.2 _).mono ?_
  rintro e w2 ⟨gb, cap, ns, rfl, hR, hb⟩
  have Hx := Lib.hid (And.intro hR hb)
  clear hR hb
  obtain ⟨a, ha⟩ : ∃ a : Option Addr, a = gb.map fun b => ⟨b, 0, none⟩ := ⟨_, rfl⟩
  rw [← ha]
  have Ha := Lib.hid ha
  clear ha
  go_wp2_with fail
  go_ret
  exact ⟨gb, cap, ns, by rw [← Ha.out]; rfl, Hx.out.1, Hx.out.2⟩
set_option maxRecDepth 100000 in
set_option maxHeartbeats 800000 in
theorem mend_at (h : At w d st F) (n : ByteArray) (hn : (n.size : Int) ≤ 1000) :
    Calls Try.prog 42 #[.pointer (some ⟨d, 0, none⟩), .string n] w fun e w' => e = .returned (.int .i64 (St.mend n st).2) ∧ Turns w d F (St.mend n st).1 w' := by
  have hread := read_at h n
  obtain ⟨X, hX⟩ : ∃ X, X = rdText st.files n := ⟨_, rfl⟩
  have hXs : X.size ≤ 1099511627776 := by rw [hX]; exact rdText_size h.small n
  have hXl : X.data.toList = rdL st n := by rw [hX]; rfl
  rw [← hX] at hread
  have hfr := frames_any X hXs
  rw [hXl] at hfr
  obtain ⟨p, hp⟩ : ∃ p, p = fsize (framesL (rdL st n)) := ⟨_, rfl⟩
  rw [← hp] at hfr
  have hpl : p ≤ X.size := by
    rw [hp, ← list_size, hXl]
    obtain ⟨q, _, h2, h3⟩ := framesL_size (rdL st n)
    omega
  have hll : (rdL st n).length = X.size := by rw [← hXl, list_size]
  obtain ⟨res, hres⟩ : ∃ r, r = St.mend n st := ⟨_, rfl⟩
  rw [← hres]
  have hres2 : res = if p < X.size then St.swap n ((rdL st n).take p) st else (st, 0) := by rw [hres]; unfold St.mend; rw [← hp, hll]
  by_cases hlt : (p : Int) < X.size
  · rw [if_pos (by omega)] at hres2
    have hsw : ∀ w1, Below w.heap.size w w1 → Calls Try.prog 71 #[.pointer (some ⟨d, 0, none⟩), .string n, .string (X.extract 0 p)] w1 fun e w' => e = .returned (.int .i64 res.2) ∧ Turns w d F res.1 w' := fun w1 hb => by
      have hA1 : At w1 d st F := h.kept fun k hk => hb.block k (h.lt hk)
      refine (swap_at hA1 n (X.extract 0 p) hn (by rw [cut_size _ _ hpl]; omega)).mono ?_
      rintro e w' ⟨rfl, ht⟩
      rw [cut_list, hXl, ← hres2] at ht
      rw [cut_list, hXl, ← hres2]
      exact ⟨rfl, Turns.from_below hb ht⟩
    have H := Lib.hid (And.intro hread (And.intro hfr hsw))
    have hp0 : (0 : Int) ≤ (p : Int) := by omega
    clear hread hfr hX hXs hXl h hsw hres hres2 hp hll hpl
    go_enter Try.func42, Try.ntmps42
    go_wp2_with fail
    refine H.out.1.mono ?_
    rintro e w1 ⟨rfl, rfl⟩
    go_wp2_with fail
    refine (H.out.2.1 _).mono ?_
    rintro e w2 ⟨gb, cap, ns, rfl, hR, hb⟩
    clear hR
    obtain ⟨a, ha⟩ : ∃ a : Option Addr, a = gb.map fun b => ⟨b, 0, none⟩ := ⟨_, rfl⟩
    rw [← ha]
    clear ha
    go_wp2_with fail
    refine (H.out.2.2 _ hb).mono ?_
    rintro e w3 ⟨rfl, ht⟩
    have Ht := Lib.hid ht
    clear ht
    go_wp2_with fail
    go_ret
    exact ⟨rfl, Ht.out⟩
  · rw [if_neg (by omega)] at hres2
    subst hres2
    have H := Lib.hid (And.intro hread (And.intro hfr h))
    clear hread hfr hX hXs hXl h hres hp hll hpl
    go_enter Try.func42, Try.ntmps42
    go_wp2_with fail
    refine H.out.1.mono ?_
    rintro e w1 ⟨rfl, rfl⟩
    go_wp2_with fail
    refine (H.out.2.1 _).mono ?_
    rintro e w2 ⟨gb, cap, ns, rfl, hR, hb⟩
    clear hR
    obtain ⟨a, ha⟩ : ∃ a : Option Addr, a = gb.map fun b => ⟨b, 0, none⟩ := ⟨_, rfl⟩
    rw [← ha]
    clear ha
    go_wp2_with fail
    go_ret
    exact ⟨rfl, Turns.of_below H.out.2.2 hb⟩
end
end Go.Proofs.Ytmjeanbbhacnaaa
