/- The walk of the law DiskApart. No condition. -/
import Derived.Test.YtmjeanbbhacnaaaDiskKeeps
import Derived.Test.YtmjeanbbhacnaaaDiskNames
namespace Go.Proofs.Ytmjeanbbhacnaaa
open Go.RowKit
/-- Names, sorted. -/
def sortN (l : List ByteArray) : List ByteArray := ((l.map (·.data.toList)).mergeSort (fun x y => decide (x ≤ y))).map (fun l => ⟨l.toArray⟩)
theorem sortN_perm {a b : List ByteArray} (h : a.Perm b) : sortN a = sortN b := by unfold sortN; rw [merge_perm (h.map _)]
theorem sortN_sorted (l : List ByteArray) (h : l.Pairwise fun x y => x.data.toList ≤ y.data.toList) : sortN l = l := by
  unfold sortN
  rw [List.mergeSort_of_pairwise (by rw [List.pairwise_map]; exact h.imp fun hxy => decide_eq_true hxy), List.map_map]
  simp [Function.comp_def]
theorem sortN_length (a : List ByteArray) : (sortN a).length = a.length := by unfold sortN; rw [List.length_map, List.length_mergeSort, List.length_map]
section
variable {W0 w : World} {d d2 : Nat} {st st2 : St} {F : Nat → Prop}
theorem names_at (h : At w d st F) (hl : st.files.length ≤ 1099511627776) : Calls Try.prog 22 #[.pointer (some ⟨d, 0, none⟩)] w fun e w' => ∃ b, e = .returned (.slice (some ⟨b, 0, none⟩) st.files.length st.files.length) ∧
    SRow w' b st.files.length (sortN (st.files.map (·.name))) ∧ w.heap.size ≤ b ∧ Below w.heap.size w w' := by
  obtain ⟨mb, gs, ck, h1, h2, rfl, h4⟩ := h
  have hlen : gs.length = st.files.length := by have := h2.length_eq; simpa using this
  refine (names_any h1 (by omega)).mono ?_
  rintro e w' ⟨b, ns, rfl, k1, k2, k3, k4⟩
  have hns : ns = sortN (st.files.map (·.name)) := by
    have e1 : (gs.map G.abs).map Fi.name = gs.map (·.name) := by rw [List.map_map]; rfl
    rw [k2, ← sortN_perm (h2.map Fi.name), e1]
    rfl
  have hl2 : ns.length = st.files.length := by rw [hns, sortN_length, List.length_map]
  rw [hlen, hns] at k1
  rw [hlen, hl2]
  exact ⟨b, rfl, k1, k3, k4⟩
theorem names_one (h : One W0 w d st) (hl : st.files.length ≤ 1099511627776) : Calls Try.prog 22 #[.pointer (some ⟨d, 0, none⟩)] w fun e w' => ∃ b, e = .returned (.slice (some ⟨b, 0, none⟩) st.files.length st.files.length) ∧
    SRow w' b st.files.length (sortN (st.files.map (·.name))) ∧ One W0 w' d st := by
  have h0 := h
  obtain ⟨F, h1, h2, h3⟩ := h
  refine (names_at h1 hl).mono ?_
  rintro e w' ⟨b, rfl, k1, k2, k3⟩
  exact ⟨b, rfl, k1, h0.below k3⟩
theorem names_two (h : Two W0 w d st d2 st2) (hl : st.files.length ≤ 1099511627776) : Calls Try.prog 22 #[.pointer (some ⟨d, 0, none⟩)] w fun e w' => ∃ b, e = .returned (.slice (some ⟨b, 0, none⟩) st.files.length st.files.length) ∧
    SRow w' b st.files.length (sortN (st.files.map (·.name))) ∧ Two W0 w' d st d2 st2 := by
  have h0 := h
  obtain ⟨F, h1, h2, h3⟩ := h.fst
  refine (names_at h1 hl).mono ?_
  rintro e w' ⟨b, rfl, k1, k2, k3⟩
  exact ⟨b, rfl, k1, h0.below k3⟩
end
set_option maxRecDepth 100000 in
set_option maxHeartbeats 1600000 in
theorem apart_walk (s t u : ByteArray) (w : World) :
    Calls Try.prog 3 #[.string s, .string t, .string u] w fun e w' => e = .returned (.bool true) ∧ Below w.heap.size w w' := by
  have H := Lib.hid (@examples06)
  go_enter Try.func3, Try.ntmps3
  go_wp2_with fail
  refine (H.out w).mono ?_
  rintro e w1 ⟨rfl, hb1⟩
  go_upto_region 4 with fail
  go_cut [0] (fun v wx => ∃ a : ByteArray, v = .string a ∧ a.size ≤ 100 ∧ wx = w1)
  case first =>
    go_wp2_with fail
    all_goals go_meet
    all_goals first | exact ⟨_, rfl, by simp; omega, rfl⟩ | exact ⟨_, rfl, by omega, rfl⟩
  case rest =>
    obtain ⟨a, rfl, ha, rfl⟩ := hcut
    go_upto_region 5 with fail
    go_cut [1] (fun v wx => ∃ b : ByteArray, v = .string b ∧ b.size ≤ 100 ∧ wx = wc)
    case first =>
      go_wp2_with fail
      all_goals go_meet
      all_goals first | exact ⟨_, rfl, by simp; omega, rfl⟩ | exact ⟨_, rfl, by omega, rfl⟩
    case rest =>
      obtain ⟨b, rfl, hb, rfl⟩ := hcut
      go_upto_region 6 with fail
      go_cut [2] (fun v wx => ∃ c : ByteArray, v = .string c ∧ c.size ≤ 100 ∧ wx = wc)
      case first =>
        go_wp2_with fail
        all_goals go_meet
        all_goals first | exact ⟨_, rfl, by simp; omega, rfl⟩ | exact ⟨_, rfl, by omega, rfl⟩
      case rest =>
        obtain ⟨c, rfl, hc, rfl⟩ := hcut
        go_wp2_with fail
        refine (new_one hb1 1000 (by omega) (by omega)).mono ?_
        rintro e w2 ⟨d, rfl, hO⟩
        clear hb1
        have las := list_size a
        have lbs := list_size b
        have lcs := list_size c
        have q1 : St.append ⟨[], 1000, -1, 0, false⟩ ⟨#[97]⟩ a.data.toList = (⟨[⟨⟨#[97]⟩, a.data.toList, 0⟩], 1000, -1, 0, false⟩, 0) := by rw [St.append_ok (by simp [ftotal]; omega), flay_zero]
        have q2 : St.append ⟨[⟨⟨#[97]⟩, a.data.toList, 0⟩], 1000, -1, 0, false⟩ ⟨#[98]⟩ b.data.toList = (⟨[⟨⟨#[97]⟩, a.data.toList, 0⟩, ⟨⟨#[98]⟩, b.data.toList, 0⟩], 1000, -1, 0, false⟩, 0) := by
          rw [St.append_ok (by rw [ftotal_one]; omega)]; simp [flay, fget, fput]
        have q3 : St.deed ⟨[⟨⟨#[97]⟩, a.data.toList, 0⟩, ⟨⟨#[98]⟩, b.data.toList, 0⟩], 1000, -1, 0, false⟩ ⟨#[97]⟩ (fsync ⟨#[97]⟩) = (⟨[⟨⟨#[97]⟩, a.data.toList, a.size⟩, ⟨⟨#[98]⟩, b.data.toList, 0⟩], 1000, -1, 0, false⟩, 0) := by
          rw [St.deed_ok (by simp [fget])]; simp [fsync, fget, fput]
        have q4 : St.deed ⟨[⟨⟨#[97]⟩, a.data.toList, a.size⟩, ⟨⟨#[98]⟩, b.data.toList, 0⟩], 1000, -1, 0, false⟩ ⟨#[97]⟩ (fun l => fdel l ⟨#[97]⟩) = (⟨[⟨⟨#[98]⟩, b.data.toList, 0⟩], 1000, -1, 0, false⟩, 0) := by
          rw [St.deed_ok (by simp [fget])]; simp [fdel]
        have q5 : St.append ⟨[⟨⟨#[98]⟩, b.data.toList, 0⟩], 1000, -1, 0, false⟩ ⟨#[97]⟩ c.data.toList = (⟨[⟨⟨#[98]⟩, b.data.toList, 0⟩, ⟨⟨#[97]⟩, c.data.toList, 0⟩], 1000, -1, 0, false⟩, 0) := by
          rw [St.append_ok (by rw [ftotal_one]; omega)]; simp [flay, fget, fput]
        have q6 : [(⟨⟨#[98]⟩, b.data.toList, 0⟩ : Fi), ⟨⟨#[97]⟩, c.data.toList, 0⟩].map (flost 0) = [⟨⟨#[98]⟩, [], 0⟩, ⟨⟨#[97]⟩, [], 0⟩] := by simp [flost, keepN]
        have q7 : rdText [(⟨⟨#[98]⟩, b.data.toList, 0⟩ : Fi), ⟨⟨#[97]⟩, c.data.toList, 0⟩] ⟨#[97]⟩ = c ∧ rdThere [(⟨⟨#[98]⟩, b.data.toList, 0⟩ : Fi), ⟨⟨#[97]⟩, c.data.toList, 0⟩] ⟨#[97]⟩ = true := by simp [rdText, rdThere, fget]
        have q8 : rdText [(⟨⟨#[98]⟩, b.data.toList, 0⟩ : Fi), ⟨⟨#[97]⟩, c.data.toList, 0⟩] ⟨#[98]⟩ = b ∧ rdThere [(⟨⟨#[98]⟩, b.data.toList, 0⟩ : Fi), ⟨⟨#[97]⟩, c.data.toList, 0⟩] ⟨#[98]⟩ = true := by simp [rdText, rdThere, fget]
        have q9 : rdText ([(⟨⟨#[98]⟩, b.data.toList, 0⟩ : Fi), ⟨⟨#[97]⟩, c.data.toList, 0⟩].map (flost 0)) ⟨#[97]⟩ = ⟨#[]⟩ ∧ rdThere ([(⟨⟨#[98]⟩, b.data.toList, 0⟩ : Fi), ⟨⟨#[97]⟩, c.data.toList, 0⟩].map (flost 0)) ⟨#[97]⟩ = true := by rw [q6]; decide
        have q10 : rdText ([(⟨⟨#[98]⟩, b.data.toList, 0⟩ : Fi), ⟨⟨#[97]⟩, c.data.toList, 0⟩].map (flost 0)) ⟨#[98]⟩ = ⟨#[]⟩ ∧ rdThere ([(⟨⟨#[98]⟩, b.data.toList, 0⟩ : Fi), ⟨⟨#[97]⟩, c.data.toList, 0⟩].map (flost 0)) ⟨#[98]⟩ = true := by rw [q6]; decide
        have q11 : sortN ([(⟨⟨#[98]⟩, b.data.toList, 0⟩ : Fi), ⟨⟨#[97]⟩, c.data.toList, 0⟩].map (·.name)) = [⟨#[97]⟩, ⟨#[98]⟩] := by
          show sortN [⟨#[98]⟩, ⟨#[97]⟩] = _
          rw [sortN_perm (List.Perm.swap _ _ _), sortN_sorted _ (by simp; decide)]
        have Q := Lib.hid (And.intro q1 (And.intro q2 (And.intro q3 (And.intro q4 (And.intro q5 (And.intro q7 (And.intro q8 (And.intro q9 (And.intro q10 q11)))))))))
        clear q1 q2 q3 q4 q5 q6 q7 q8 q9 q10 q11 las lbs lcs
        go_wp2_with fail
        refine (append_one hO ⟨#[97]⟩ a (by omega) Q.out.1).mono ?_
        rintro e w3 ⟨rfl, hO3⟩
        clear hO
        go_wp2_with fail
        refine (append_one hO3 ⟨#[98]⟩ b (by omega) Q.out.2.1).mono ?_
        rintro e w4 ⟨rfl, hO4⟩
        clear hO3
        go_wp2_with fail
        refine (sync_one hO4 ⟨#[97]⟩ Q.out.2.2.1).mono ?_
        rintro e w5 ⟨rfl, hO5⟩
        clear hO4
        go_wp2_with fail
        refine (delete_one hO5 ⟨#[97]⟩ Q.out.2.2.2.1).mono ?_
        rintro e w6 ⟨rfl, hO6⟩
        clear hO5
        go_wp2_with fail
        refine (append_one hO6 ⟨#[97]⟩ c (by omega) Q.out.2.2.2.2.1).mono ?_
        rintro e w7 ⟨rfl, hO7⟩
        clear hO6
        have hlo := lost_two hO7 0
        have Hlo := Lib.hid hlo
        clear hlo hO7
        go_wp2_with fail
        refine Hlo.out.mono ?_
        rintro e w8 ⟨d2, rfl, hT⟩
        clear Hlo
        have hr1 := read_one hT.fst ⟨#[97]⟩
        rw [Q.out.2.2.2.2.2.1.1, Q.out.2.2.2.2.2.1.2] at hr1
        have hr2 := read_one hT.fst ⟨#[98]⟩
        rw [Q.out.2.2.2.2.2.2.1.1, Q.out.2.2.2.2.2.2.1.2] at hr2
        have hr3 := read_one hT.swap.fst ⟨#[97]⟩
        rw [Q.out.2.2.2.2.2.2.2.1.1, Q.out.2.2.2.2.2.2.2.1.2] at hr3
        have hr4 := read_one hT.swap.fst ⟨#[98]⟩
        rw [Q.out.2.2.2.2.2.2.2.2.1.1, Q.out.2.2.2.2.2.2.2.2.1.2] at hr4
        have hnm := names_two hT (by show 2 ≤ _; omega)
        rw [Q.out.2.2.2.2.2.2.2.2.2] at hnm
        have Hr := Lib.hid (And.intro hr1 (And.intro hr2 (And.intro hr3 (And.intro hr4 hnm))))
        clear hr1 hr2 hr3 hr4 hnm hT
        go_wp2_with fail
        refine Hr.out.1.mono ?_
        rintro e w9 ⟨rfl, rfl⟩
        go_wp2_with fail
        refine Hr.out.2.1.mono ?_
        rintro e w9 ⟨rfl, rfl⟩
        go_wp2_with fail
        refine Hr.out.2.2.1.mono ?_
        rintro e w9 ⟨rfl, rfl⟩
        go_wp2_with fail
        refine Hr.out.2.2.2.1.mono ?_
        rintro e w9 ⟨rfl, rfl⟩
        go_wp2_with fail
        refine Hr.out.2.2.2.2.mono ?_
        rintro e w10 ⟨lb, rfl, hrow, hT2⟩
        clear Hr
        have c0 : w10.cell? ⟨lb, 0, none⟩ = some (.string ⟨#[97]⟩) := hrow.cell 0 (by decide)
        have c1 : w10.cell? ⟨lb, 1, none⟩ = some (.string ⟨#[98]⟩) := hrow.cell 1 (by decide)
        have hw10 := hT2.fst.world
        clear hrow hT2 Q
        go_wp2_with fail
        go_ret
        exact ⟨rfl, hw10⟩
end Go.Proofs.Ytmjeanbbhacnaaa
