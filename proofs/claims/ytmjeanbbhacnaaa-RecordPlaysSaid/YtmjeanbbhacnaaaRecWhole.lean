/- The walk of Whole; the contracts of the record functions at one disk and at one of two. -/
import Derived.Test.YtmjeanbbhacnaaaRecMore
namespace Go.Proofs.Ytmjeanbbhacnaaa
open Go.RowKit
section
variable {w : World} {d : Nat} {F : Nat → Prop} {st : St}
theorem wholeL_of (l : List UInt8) : (∃ t, framesL l = [t] ∧ fsize (framesL l) = l.length ∧ wholeL l = some t) ∨ ((framesL l).length ≠ 1 ∧ wholeL l = none) ∨ (fsize (framesL l) ≠ l.length ∧ wholeL l = none) := by
  unfold wholeL
  rcases hf : framesL l with _ | ⟨t, _ | ⟨u, r⟩⟩
  · exact .inr (.inl ⟨by simp, rfl⟩)
  · by_cases h : fsize [t] = l.length
    · exact .inl ⟨t, rfl, h, by simp [h]⟩
    · exact .inr (.inr ⟨h, by simp [h]⟩)
  · exact .inr (.inl ⟨by simp, rfl⟩)
set_option maxRecDepth 100000 in
set_option maxHeartbeats 800000 in
theorem whole_at (h : At w d st F) (n : ByteArray) :
    Calls Try.prog 27 #[.pointer (some ⟨d, 0, none⟩), .string n] w fun e w' => e = .returned (.tuple #[.string ⟨((wholeL (rdL st n)).getD []).toArray⟩, .bool (wholeL (rdL st n)).isSome]) ∧ Below w.heap.size w w' := by
  have hread := read_at h n
  obtain ⟨X, hX⟩ : ∃ X, X = rdText st.files n := ⟨_, rfl⟩
  have hXs : X.size ≤ 1099511627776 := by rw [hX]; exact rdText_size h.small n
  have hXl : X.data.toList = rdL st n := by rw [hX]; rfl
  have hll : (rdL st n).length = X.size := by rw [← hXl, list_size]
  rw [← hX] at hread
  have hfr := frames_any X hXs
  rw [hXl] at hfr
  obtain ⟨p, hp⟩ : ∃ p, p = fsize (framesL (rdL st n)) := ⟨_, rfl⟩
  rw [← hp] at hfr
  have H := Lib.hid (And.intro hread hfr)
  have hw := wholeL_of (rdL st n)
  rw [← hp, hll] at hw
  clear hread hfr hX hXs hXl hll hp h
  obtain ⟨ts, hts⟩ : ∃ ts, ts = framesL (rdL st n) := ⟨_, rfl⟩
  rw [← hts] at hw H
  rcases hw with ⟨t, ht, hps, hw⟩ | ⟨hne, hw⟩ | ⟨hne, hw⟩
  · rw [hw]
    obtain ⟨T, hT⟩ : ∃ T : ByteArray, T = ⟨t.toArray⟩ := ⟨_, rfl⟩
    have hT2 : (⟨((some t).getD []).toArray⟩ : ByteArray) = T := hT.symm
    rw [hT2]
    have Ht := Lib.hid (And.intro ht hT)
    have hpsI : (p : Int) = (X.size : Int) := by omega
    clear ht hw hts hT hT2 hps
    go_enter Try.func27, Try.ntmps27
    go_wp2_with fail
    refine H.out.1.mono ?_
    rintro e w1 ⟨rfl, rfl⟩
    go_wp2_with fail
    refine (H.out.2 _).mono ?_
    rintro e w2 ⟨gb, cap, ns, rfl, ⟨hR, hns, hgb⟩, hb⟩
    rw [Ht.out.1] at hns
    have hl1 : ns.length = 1 := by have := congrArg List.length hns; simpa using this
    obtain ⟨b, rfl, hc⟩ := hR.cell 0 (by omega)
    have hn0 : ns[0]'(by omega) = T := by
      rcases ns with _ | ⟨x, r⟩
      · simp at hl1
      · simp only [List.map_cons, List.cons.injEq] at hns
        rw [Ht.out.2, ← hns.1]
        rfl
    rw [hn0] at hc
    have Hb := Lib.hid hb
    clear hR hns hgb hn0 hb
    rw [hl1]
    clear hl1
    go_wp2_with fail
    go_ret2
    exact ⟨rfl, Hb.out⟩
  · rw [hw]
    have Hne := Lib.hid hne
    clear hw hts hne
    go_enter Try.func27, Try.ntmps27
    go_wp2_with fail
    refine H.out.1.mono ?_
    rintro e w1 ⟨rfl, rfl⟩
    go_wp2_with fail
    refine (H.out.2 _).mono ?_
    rintro e w2 ⟨gb, cap, ns, rfl, ⟨hR, hns, hgb⟩, hb⟩
    obtain ⟨l, hl⟩ : ∃ l, l = ns.length := ⟨_, rfl⟩
    have hl1 : ¬ (l : Int) = 1 := by have := Hne.out; rw [← hns, List.length_map, ← hl] at this; omega
    rw [← hl]
    obtain ⟨a, ha⟩ : ∃ a : Option Addr, a = gb.map fun b => ⟨b, 0, none⟩ := ⟨_, rfl⟩
    rw [← ha]
    have Hb := Lib.hid hb
    clear hR hns hgb hb hl ha
    go_wp2_with fail
    go_ret2
    exact ⟨rfl, Hb.out⟩
  · rw [hw]
    have hpI : ¬ (p : Int) = (X.size : Int) := by omega
    clear hw hts hne
    go_enter Try.func27, Try.ntmps27
    go_wp2_with fail
    refine H.out.1.mono ?_
    rintro e w1 ⟨rfl, rfl⟩
    go_wp2_with fail
    refine (H.out.2 _).mono ?_
    rintro e w2 ⟨gb, cap, ns, rfl, ⟨hR, hns, hgb⟩, hb⟩
    obtain ⟨l, hl⟩ : ∃ l, l = ns.length := ⟨_, rfl⟩
    rw [← hl]
    obtain ⟨a, ha⟩ : ∃ a : Option Addr, a = gb.map fun b => ⟨b, 0, none⟩ := ⟨_, rfl⟩
    rw [← ha]
    have Hb := Lib.hid hb
    clear hR hns hgb hb hl ha
    by_cases hl1 : (l : Int) = 1
    · have e1 : l = 1 := by omega
      subst e1
      clear hl1
      go_wp2_with fail
      go_ret2
      exact ⟨rfl, Hb.out⟩
    · go_wp2_with fail
      go_ret2
      exact ⟨rfl, Hb.out⟩
end
section
variable {W0 w : World} {d d2 : Nat} {st st2 : St}
theorem add_one (h : One W0 w d st) (n s : ByteArray) {st' : St} {x : Int} (he : St.add n s.data.toList st = (st', x)) :
    Calls Try.prog 41 #[.pointer (some ⟨d, 0, none⟩), .string n, .string s] w fun e w' => e = .returned (.int .i64 x) ∧ One W0 w' d st' ∧ KeepT w w' := Calls.oneK h fun _ hF => by
  have := add_at hF n s
  rw [he] at this
  exact this
theorem mend_one (h : One W0 w d st) (n : ByteArray) (hn : (n.size : Int) ≤ 1000) {st' : St} {x : Int} (he : St.mend n st = (st', x)) :
    Calls Try.prog 42 #[.pointer (some ⟨d, 0, none⟩), .string n] w fun e w' => e = .returned (.int .i64 x) ∧ One W0 w' d st' ∧ KeepT w w' := Calls.oneK h fun _ hF => by
  have := mend_at hF n hn
  rw [he] at this
  exact this
theorem replace_one (h : One W0 w d st) (n s : ByteArray) (hn : (n.size : Int) ≤ 1000) {st' : St} {x : Int} (he : St.replace n s.data.toList st = (st', x)) :
    Calls Try.prog 43 #[.pointer (some ⟨d, 0, none⟩), .string n, .string s] w fun e w' => e = .returned (.int .i64 x) ∧ One W0 w' d st' ∧ KeepT w w' := Calls.oneK h fun _ hF => by
  have := replace_at hF n s hn
  rw [he] at this
  exact this
theorem appendK_one (h : One W0 w d st) (n s : ByteArray) (hs : s.size ≤ 281474976710656) {st' : St} {x : Int} (he : St.append st n s.data.toList = (st', x)) :
    Calls Try.prog 17 #[.pointer (some ⟨d, 0, none⟩), .string n, .string s] w fun e w' => e = .returned (.int .i64 x) ∧ One W0 w' d st' ∧ KeepT w w' := Calls.oneK h fun _ hF => append_at hF n s hs he
theorem all_one (h : One W0 w d st) (n : ByteArray) :
    Calls Try.prog 31 #[.pointer (some ⟨d, 0, none⟩), .string n] w fun e w' => ∃ (gb : Option Nat) (cap : Nat) (ns : List ByteArray),
      e = .returned (.slice (gb.map fun b => ⟨b, 0, none⟩) ns.length cap) ∧ SRowO w' gb cap ns ∧ ns.map (·.data.toList) = framesL (rdL st n) ∧ One W0 w' d st ∧ Below w.heap.size w w' := by
  have h0 := h
  obtain ⟨F, h1, h2, h3⟩ := h
  refine (all_at h1 n).mono ?_
  rintro e w' ⟨gb, cap, ns, rfl, ⟨hR, hns, _⟩, hb⟩
  exact ⟨gb, cap, ns, rfl, hR, hns, h0.below hb, hb⟩
theorem whole_one (h : One W0 w d st) (n : ByteArray) :
    Calls Try.prog 27 #[.pointer (some ⟨d, 0, none⟩), .string n] w fun e w' => e = .returned (.tuple #[.string ⟨((wholeL (rdL st n)).getD []).toArray⟩, .bool (wholeL (rdL st n)).isSome]) ∧ One W0 w' d st ∧ Below w.heap.size w w' := by
  have h0 := h
  obtain ⟨F, h1, h2, h3⟩ := h
  refine (whole_at h1 n).mono ?_
  rintro e w' ⟨rfl, hb⟩
  exact ⟨rfl, h0.below hb, hb⟩
end
end Go.Proofs.Ytmjeanbbhacnaaa
