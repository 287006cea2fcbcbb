/- The reference of chapter 7; both disks side by side. The bounds: at most 10^6 files; a name has at most 1000 bytes. -/
import Derived.Test.YtmjeanbbhacnaaaRDeedAll
namespace Go.Proofs.Ytmjeanbbhacnaaa
open Go.RowKit
attribute [local go_sem ↓] Go.wp_at_zero Go.wp_at_succ
theorem fput_len (l : List Fi) (f : Fi) : (fput l f).length ≤ l.length + 1 := by
  unfold fput; split <;> simp
theorem fput_len_old {l : List Fi} {f : Fi} (h : (fget l f.name).isSome = true) : (fput l f).length = l.length := by
  unfold fput; rw [if_pos h]; simp
theorem flay_len (l : List Fi) (n : ByteArray) (s : List UInt8) : (flay l n s).length ≤ l.length + 1 := by
  unfold flay; split <;> exact fput_len _ _
theorem tornL_len (l : List Fi) (n : ByteArray) (s : List UInt8) (b : Bool) (k : Nat) : (tornL l n s b k).length ≤ l.length + 1 := by
  unfold tornL; split
  · exact flay_len _ _ _
  · omega
theorem append_len (st : St) (n : ByteArray) (s : List UInt8) : (St.append st n s).1.files.length ≤ st.files.length + 1 := by
  unfold St.append
  split
  · exact Nat.le_succ _
  · split
    · exact tornL_len _ _ _ _ _
    · split
      · exact flay_len _ _ _
      · exact Nat.le_succ _
theorem deed_len {st : St} {n : ByteArray} {D0 : List Fi → List Fi} (h : (D0 st.files).length ≤ st.files.length) : (St.deed st n D0).1.files.length ≤ st.files.length := by
  unfold St.deed
  split
  · exact Nat.le_refl _
  · split
    · exact Nat.le_refl _
    · split
      · exact h
      · exact Nat.le_refl _
theorem fsync_len (n : ByteArray) (l : List Fi) : (fsync n l).length ≤ l.length := by
  unfold fsync
  split
  · exact Nat.le_refl _
  · rename_i f hf
    obtain ⟨_, hn⟩ := fget_some hf
    rw [fput_len_old (by show (fget l f.name).isSome = true; rw [hn, hf]; rfl)]
    exact Nat.le_refl _
theorem fdel_len (l : List Fi) (n : ByteArray) : (fdel l n).length ≤ l.length := List.length_filter_le _ _
theorem frename_len {l : List Fi} (h : Named l) (a b : ByteArray) : (frename a b l).length ≤ l.length := by
  unfold frename
  split
  · exact Nat.le_refl _
  · rename_i f hf
    obtain ⟨hm, hn⟩ := fget_some hf
    have h1 := (fdel_of h hm).length_eq
    rw [hn] at h1
    have h2 := fput_len (fdel l a) { f with name := b }
    simp only [List.length_cons] at h1
    omega
theorem sync_len (st : St) (n : ByteArray) : (St.sync n st).1.files.length ≤ st.files.length := deed_len (fsync_len _ _)
theorem del_len (st : St) (n : ByteArray) : (St.del n st).1.files.length ≤ st.files.length := deed_len (fdel_len _ _)
theorem ren_len (st : St) (hn : Named st.files) (n b : ByteArray) : (St.ren n b st).1.files.length ≤ st.files.length := deed_len (frename_len hn _ _)
theorem RTurns.next {w w1 : World} {x : Nat} {F : Nat → Prop} {s1 s2 : St} {f : FuncId} {args : Array Value} {E : Ending → Prop} (h : RTurns w x F s1 w1) (hc : ∀ F1, RAt w1 x s1 F1 → Calls Try.prog f args w1 fun e w' => E e ∧ RTurns w1 x F1 s2 w') :
    Calls Try.prog f args w1 fun e w' => E e ∧ RTurns w x F s2 w' := by
  obtain ⟨F1, h1, h2⟩ := h
  refine (hc F1 h1).mono ?_
  rintro e w' ⟨he, F2, k1, k2⟩
  exact ⟨he, F2, k1, h2.trans k2⟩
theorem RTurns.nextB {w w1 : World} {x : Nat} {F : Nat → Prop} {s1 : St} {f : FuncId} {args : Array Value} {E : Ending → Prop} (h : RTurns w x F s1 w1) (hc : ∀ F1, RAt w1 x s1 F1 → Calls Try.prog f args w1 fun e w' => E e ∧ Below w1.heap.size w1 w') :
    Calls Try.prog f args w1 fun e w' => E e ∧ RTurns w x F s1 w' := h.next fun F1 h1 => (hc F1 h1).mono fun _ _ hx => ⟨hx.1, .below h1 hx.2⟩
theorem RTurns.refl {w : World} {x : Nat} {F : Nat → Prop} {st : St} (h : RAt w x st F) : RTurns w x F st w := .below h (Below.refl _ _)
theorem until_stop {g : St → St × Int} {r : List (St → St × Int)} {st : St} (h : (g st).2 ≠ 0) : St.until (g :: r) st = g st := by unfold St.until; rw [if_neg h]
theorem until_go {g : St → St × Int} {r : List (St → St × Int)} {st : St} (h : (g st).2 = 0) : St.until (g :: r) st = St.until r (g st).1 := by conv => { lhs; unfold St.until }; rw [if_pos h]
theorem until_one (g : St → St × Int) (st : St) : St.until [g] st = g st := by
  by_cases h : (g st).2 = 0
  · rw [until_go h]
    unfold St.until
    rw [← h]
  · exact until_stop h
section
variable {w : World} {x : Nat} {st : St} {F : Nat → Prop}
set_option maxRecDepth 100000 in
set_option maxHeartbeats 800000 in
theorem rswap_yA (h : RAt w x st F) (n s : ByteArray) (hn : (n.size : Int) ≤ 1000) (hs : (s.size : Int) ≤ 281474976710656) (hlen : st.files.length < 999999) (hth : rdThere st.files (newName n) = true) (h1 : (St.del (newName n) st).2 ≠ 0) :
    Calls Try.prog 76 #[.pointer (some ⟨x, 0, none⟩), .string n, .string s] w fun e w' => e = .returned (.int .i64 (St.del (newName n) st).2) ∧ RTurns w x F (St.del (newName n) st).1 w' := by
  obtain ⟨NN, hNN⟩ : ∃ NN, NN = newName n := ⟨_, rfl⟩
  have hnn : n ++ ⟨#[46, 110, 101, 119]⟩ = NN := by rw [hNN]; rfl
  have hnz : ¬ 9223372036854775807 < n.size + 4 := by omega
  rw [← hNN] at hth
  try rw [← hNN]
  rw [← hNN] at h1
  have hrd := rread_at h NN (by omega)
  rw [hth] at hrd
  have Hrd := Lib.hid hrd
  obtain ⟨p1, hp1⟩ : ∃ p, p = (St.del NN st) := ⟨_, rfl⟩
  rw [← hp1]
  try rw [← hp1] at h1
  have hlens : p1.1.files.length < 999999 ∧ True := by
    have l1 := del_len st NN
    rw [← hp1] at l1
    exact ⟨by omega, trivial⟩
  have HL := Lib.hid (And.intro hlens (And.intro h (And.intro hs hlen)))
  have Hp1 := Lib.hid hp1
  have ep1 : (p1.2 == 0) = false := by simpa using h1
  have fp1 : ¬ p1.2 = 0 := h1
  clear h hrd hNN hs hlen hlens hth hp1 h1
  go_enter Try.func76, Try.ntmps76
  go_wp2_with fail
  refine Hrd.out.mono ?_
  rintro e w1 ⟨rfl, hb1⟩
  have HT0 := Lib.hid (RTurns.below HL.out.2.1 hb1)
  clear hb1
  have hc := HT0.out.next fun F1 hA => rdel_at hA NN (by have := HL.out.2.2.2; omega)
  rw [← Hp1.out] at hc
  have Hc1 := Lib.hid hc
  clear hc
  go_wp2_with fail
  refine Hc1.out.mono ?_
  rintro e w2 ⟨rfl, ht⟩
  have HT1 := Lib.hid ht
  clear ht
  go_wp2_with fail
  go_ret
  exact ⟨rfl, HT1.out⟩
set_option maxRecDepth 100000 in
set_option maxHeartbeats 800000 in
theorem rswap_yB (h : RAt w x st F) (n s : ByteArray) (hn : (n.size : Int) ≤ 1000) (hs : (s.size : Int) ≤ 281474976710656) (hlen : st.files.length < 999999) (hth : rdThere st.files (newName n) = true) (h1 : (St.del (newName n) st).2 = 0) (hse : s = ⟨#[]⟩) :
    Calls Try.prog 76 #[.pointer (some ⟨x, 0, none⟩), .string n, .string s] w fun e w' => e = .returned (.int .i64 (St.del n (St.del (newName n) st).1).2) ∧ RTurns w x F (St.del n (St.del (newName n) st).1).1 w' := by
  obtain ⟨NN, hNN⟩ : ∃ NN, NN = newName n := ⟨_, rfl⟩
  have hnn : n ++ ⟨#[46, 110, 101, 119]⟩ = NN := by rw [hNN]; rfl
  have hnz : ¬ 9223372036854775807 < n.size + 4 := by omega
  rw [← hNN] at hth
  try rw [← hNN]
  rw [← hNN] at h1
  have hrd := rread_at h NN (by omega)
  rw [hth] at hrd
  have Hrd := Lib.hid hrd
  obtain ⟨p1, hp1⟩ : ∃ p, p = (St.del NN st) := ⟨_, rfl⟩
  obtain ⟨pB, hpB⟩ : ∃ p, p = (St.del n p1.1) := ⟨_, rfl⟩
  rw [← hp1]
  rw [← hpB]
  try rw [← hp1] at h1
  try rw [← hpB] at h1
  have hlens : p1.1.files.length < 999999 ∧ True := by
    have l1 := del_len st NN
    rw [← hp1] at l1
    exact ⟨by omega, trivial⟩
  have HL := Lib.hid (And.intro hlens (And.intro h (And.intro hs hlen)))
  have Hp1 := Lib.hid hp1
  have HpB := Lib.hid hpB
  have ep1 : p1.2 = 0 := h1
  subst hse
  clear h hrd hNN hs hlen hlens hth hp1 hpB h1
  go_enter Try.func76, Try.ntmps76
  go_wp2_with fail
  refine Hrd.out.mono ?_
  rintro e w1 ⟨rfl, hb1⟩
  have HT0 := Lib.hid (RTurns.below HL.out.2.1 hb1)
  clear hb1
  have hc := HT0.out.next fun F1 hA => rdel_at hA NN (by have := HL.out.2.2.2; omega)
  rw [← Hp1.out] at hc
  rw [ep1] at hc
  have Hc1 := Lib.hid hc
  clear hc
  go_wp2_with fail
  refine Hc1.out.mono ?_
  rintro e w2 ⟨rfl, ht⟩
  have HT1 := Lib.hid ht
  clear ht
  have hc := HT1.out.next fun F1 hA => rdel_at hA n (by have := HL.out.1.1; omega)
  rw [← HpB.out] at hc
  have Hc2 := Lib.hid hc
  clear hc
  go_wp2_with fail
  refine Hc2.out.mono ?_
  rintro e w3 ⟨rfl, ht⟩
  have HT2 := Lib.hid ht
  clear ht
  go_wp2_with fail
  go_ret
  exact ⟨rfl, HT2.out⟩
set_option maxRecDepth 100000 in
set_option maxHeartbeats 800000 in
theorem rswap_yC (h : RAt w x st F) (n s : ByteArray) (hn : (n.size : Int) ≤ 1000) (hs : (s.size : Int) ≤ 281474976710656) (hlen : st.files.length < 999999) (hth : rdThere st.files (newName n) = true) (h1 : (St.del (newName n) st).2 = 0) (hse : s ≠ ⟨#[]⟩) (h2 : (St.append (St.del (newName n) st).1 (newName n) s.data.toList).2 ≠ 0) :
    Calls Try.prog 76 #[.pointer (some ⟨x, 0, none⟩), .string n, .string s] w fun e w' => e = .returned (.int .i64 (St.append (St.del (newName n) st).1 (newName n) s.data.toList).2) ∧ RTurns w x F (St.append (St.del (newName n) st).1 (newName n) s.data.toList).1 w' := by
  obtain ⟨NN, hNN⟩ : ∃ NN, NN = newName n := ⟨_, rfl⟩
  have hnn : n ++ ⟨#[46, 110, 101, 119]⟩ = NN := by rw [hNN]; rfl
  have hnz : ¬ 9223372036854775807 < n.size + 4 := by omega
  rw [← hNN] at hth
  try rw [← hNN]
  rw [← hNN] at h1
  rw [← hNN] at h2
  have hrd := rread_at h NN (by omega)
  rw [hth] at hrd
  have Hrd := Lib.hid hrd
  obtain ⟨p1, hp1⟩ : ∃ p, p = (St.del NN st) := ⟨_, rfl⟩
  obtain ⟨p2, hp2⟩ : ∃ p, p = (St.append p1.1 NN s.data.toList) := ⟨_, rfl⟩
  rw [← hp1]
  rw [← hp2]
  try rw [← hp1] at h1
  try rw [← hp2] at h1
  try rw [← hp1] at h2
  try rw [← hp2] at h2
  have hlens : p1.1.files.length < 999999 ∧ True := by
    have l1 := del_len st NN
    rw [← hp1] at l1
    exact ⟨by omega, trivial⟩
  have HL := Lib.hid (And.intro hlens (And.intro h (And.intro hs hlen)))
  have Hp1 := Lib.hid hp1
  have Hp2 := Lib.hid hp2
  have ep1 : p1.2 = 0 := h1
  have ep2 : (p2.2 == 0) = false := by simpa using h2
  have fp2 : ¬ p2.2 = 0 := h2
  have hsl : s.toList.isEmpty = false := by
    rw [Lib.toList_data]
    cases hc : s.data.toList with
    | nil => exact absurd (by rw [← txt_list s, hc]; rfl) hse
    | cons a r => rfl
  clear h hrd hNN hs hlen hlens hth hp1 hp2 h1 h2 hse
  go_enter Try.func76, Try.ntmps76
  go_wp2_with fail
  refine Hrd.out.mono ?_
  rintro e w1 ⟨rfl, hb1⟩
  have HT0 := Lib.hid (RTurns.below HL.out.2.1 hb1)
  clear hb1
  have hc := HT0.out.next fun F1 hA => rdel_at hA NN (by have := HL.out.2.2.2; omega)
  rw [← Hp1.out] at hc
  rw [ep1] at hc
  have Hc1 := Lib.hid hc
  clear hc
  go_wp2_with fail
  refine Hc1.out.mono ?_
  rintro e w2 ⟨rfl, ht⟩
  have HT1 := Lib.hid ht
  clear ht
  have hc := HT1.out.next fun F1 hA => rappend_at hA NN s HL.out.2.2.1 (by have := HL.out.1.1; omega)
  rw [← Hp2.out] at hc
  have Hc2 := Lib.hid hc
  clear hc
  go_wp2_with fail
  refine Hc2.out.mono ?_
  rintro e w3 ⟨rfl, ht⟩
  have HT2 := Lib.hid ht
  clear ht
  go_wp2_with fail
  go_ret
  exact ⟨rfl, HT2.out⟩
set_option maxRecDepth 100000 in
set_option maxHeartbeats 800000 in
theorem rswap_yD (h : RAt w x st F) (n s : ByteArray) (hn : (n.size : Int) ≤ 1000) (hs : (s.size : Int) ≤ 281474976710656) (hlen : st.files.length < 999999) (hth : rdThere st.files (newName n) = true) (h1 : (St.del (newName n) st).2 = 0) (hse : s ≠ ⟨#[]⟩) (h2 : (St.append (St.del (newName n) st).1 (newName n) s.data.toList).2 = 0) (h3 : (St.sync (newName n) (St.append (St.del (newName n) st).1 (newName n) s.data.toList).1).2 ≠ 0) :
    Calls Try.prog 76 #[.pointer (some ⟨x, 0, none⟩), .string n, .string s] w fun e w' => e = .returned (.int .i64 (St.sync (newName n) (St.append (St.del (newName n) st).1 (newName n) s.data.toList).1).2) ∧ RTurns w x F (St.sync (newName n) (St.append (St.del (newName n) st).1 (newName n) s.data.toList).1).1 w' := by
  obtain ⟨NN, hNN⟩ : ∃ NN, NN = newName n := ⟨_, rfl⟩
  have hnn : n ++ ⟨#[46, 110, 101, 119]⟩ = NN := by rw [hNN]; rfl
  have hnz : ¬ 9223372036854775807 < n.size + 4 := by omega
  rw [← hNN] at hth
  try rw [← hNN]
  rw [← hNN] at h1
  rw [← hNN] at h2
  rw [← hNN] at h3
  have hrd := rread_at h NN (by omega)
  rw [hth] at hrd
  have Hrd := Lib.hid hrd
  obtain ⟨p1, hp1⟩ : ∃ p, p = (St.del NN st) := ⟨_, rfl⟩
  obtain ⟨p2, hp2⟩ : ∃ p, p = (St.append p1.1 NN s.data.toList) := ⟨_, rfl⟩
  obtain ⟨p3, hp3⟩ : ∃ p, p = (St.sync NN p2.1) := ⟨_, rfl⟩
  rw [← hp1]
  rw [← hp2]
  rw [← hp3]
  try rw [← hp1] at h1
  try rw [← hp2] at h1
  try rw [← hp3] at h1
  try rw [← hp1] at h2
  try rw [← hp2] at h2
  try rw [← hp3] at h2
  try rw [← hp1] at h3
  try rw [← hp2] at h3
  try rw [← hp3] at h3
  have hlens : p1.1.files.length < 999999 ∧ p2.1.files.length < 1000000 ∧ True := by
    have l1 := del_len st NN
    rw [← hp1] at l1
    have l2 := append_len p1.1 NN s.data.toList
    rw [← hp2] at l2
    exact ⟨by omega, by omega, trivial⟩
  have HL := Lib.hid (And.intro hlens (And.intro h (And.intro hs hlen)))
  have Hp1 := Lib.hid hp1
  have Hp2 := Lib.hid hp2
  have Hp3 := Lib.hid hp3
  have ep1 : p1.2 = 0 := h1
  have ep2 : p2.2 = 0 := h2
  have ep3 : (p3.2 == 0) = false := by simpa using h3
  have fp3 : ¬ p3.2 = 0 := h3
  have hsl : s.toList.isEmpty = false := by
    rw [Lib.toList_data]
    cases hc : s.data.toList with
    | nil => exact absurd (by rw [← txt_list s, hc]; rfl) hse
    | cons a r => rfl
  clear h hrd hNN hs hlen hlens hth hp1 hp2 hp3 h1 h2 h3 hse
  go_enter Try.func76, Try.ntmps76
  go_wp2_with fail
  refine Hrd.out.mono ?_
  rintro e w1 ⟨rfl, hb1⟩
  have HT0 := Lib.hid (RTurns.below HL.out.2.1 hb1)
  clear hb1
  have hc := HT0.out.next fun F1 hA => rdel_at hA NN (by have := HL.out.2.2.2; omega)
  rw [← Hp1.out] at hc
  rw [ep1] at hc
  have Hc1 := Lib.hid hc
  clear hc
  go_wp2_with fail
  refine Hc1.out.mono ?_
  rintro e w2 ⟨rfl, ht⟩
  have HT1 := Lib.hid ht
  clear ht
  have hc := HT1.out.next fun F1 hA => rappend_at hA NN s HL.out.2.2.1 (by have := HL.out.1.1; omega)
  rw [← Hp2.out] at hc
  rw [ep2] at hc
  have Hc2 := Lib.hid hc
  clear hc
  go_wp2_with fail
  refine Hc2.out.mono ?_
  rintro e w3 ⟨rfl, ht⟩
  have HT2 := Lib.hid ht
  clear ht
  have hc := HT2.out.next fun F1 hA => rsync_at hA NN HL.out.1.2.1
  rw [← Hp3.out] at hc
  have Hc3 := Lib.hid hc
  clear hc
  go_wp2_with fail
  refine Hc3.out.mono ?_
  rintro e w4 ⟨rfl, ht⟩
  have HT3 := Lib.hid ht
  clear ht
  go_wp2_with fail
  go_ret
  exact ⟨rfl, HT3.out⟩
set_option maxRecDepth 100000 in
set_option maxHeartbeats 800000 in
theorem rswap_yE (h : RAt w x st F) (n s : ByteArray) (hn : (n.size : Int) ≤ 1000) (hs : (s.size : Int) ≤ 281474976710656) (hlen : st.files.length < 999999) (hth : rdThere st.files (newName n) = true) (h1 : (St.del (newName n) st).2 = 0) (hse : s ≠ ⟨#[]⟩) (h2 : (St.append (St.del (newName n) st).1 (newName n) s.data.toList).2 = 0) (h3 : (St.sync (newName n) (St.append (St.del (newName n) st).1 (newName n) s.data.toList).1).2 = 0) :
    Calls Try.prog 76 #[.pointer (some ⟨x, 0, none⟩), .string n, .string s] w fun e w' => e = .returned (.int .i64 (St.ren (newName n) n (St.sync (newName n) (St.append (St.del (newName n) st).1 (newName n) s.data.toList).1).1).2) ∧ RTurns w x F (St.ren (newName n) n (St.sync (newName n) (St.append (St.del (newName n) st).1 (newName n) s.data.toList).1).1).1 w' := by
  obtain ⟨NN, hNN⟩ : ∃ NN, NN = newName n := ⟨_, rfl⟩
  have hnn : n ++ ⟨#[46, 110, 101, 119]⟩ = NN := by rw [hNN]; rfl
  have hnz : ¬ 9223372036854775807 < n.size + 4 := by omega
  rw [← hNN] at hth
  try rw [← hNN]
  rw [← hNN] at h1
  rw [← hNN] at h2
  rw [← hNN] at h3
  have hrd := rread_at h NN (by omega)
  rw [hth] at hrd
  have Hrd := Lib.hid hrd
  obtain ⟨p1, hp1⟩ : ∃ p, p = (St.del NN st) := ⟨_, rfl⟩
  obtain ⟨p2, hp2⟩ : ∃ p, p = (St.append p1.1 NN s.data.toList) := ⟨_, rfl⟩
  obtain ⟨p3, hp3⟩ : ∃ p, p = (St.sync NN p2.1) := ⟨_, rfl⟩
  obtain ⟨p4, hp4⟩ : ∃ p, p = (St.ren NN n p3.1) := ⟨_, rfl⟩
  rw [← hp1]
  rw [← hp2]
  rw [← hp3]
  rw [← hp4]
  try rw [← hp1] at h1
  try rw [← hp2] at h1
  try rw [← hp3] at h1
  try rw [← hp4] at h1
  try rw [← hp1] at h2
  try rw [← hp2] at h2
  try rw [← hp3] at h2
  try rw [← hp4] at h2
  try rw [← hp1] at h3
  try rw [← hp2] at h3
  try rw [← hp3] at h3
  try rw [← hp4] at h3
  have hlens : p1.1.files.length < 999999 ∧ p2.1.files.length < 1000000 ∧ p3.1.files.length < 1000000 ∧ True := by
    have l1 := del_len st NN
    rw [← hp1] at l1
    have l2 := append_len p1.1 NN s.data.toList
    rw [← hp2] at l2
    have l3 := sync_len p2.1 NN
    rw [← hp3] at l3
    exact ⟨by omega, by omega, by omega, trivial⟩
  have HL := Lib.hid (And.intro hlens (And.intro h (And.intro hs hlen)))
  have Hp1 := Lib.hid hp1
  have Hp2 := Lib.hid hp2
  have Hp3 := Lib.hid hp3
  have Hp4 := Lib.hid hp4
  have ep1 : p1.2 = 0 := h1
  have ep2 : p2.2 = 0 := h2
  have ep3 : p3.2 = 0 := h3
  have hsl : s.toList.isEmpty = false := by
    rw [Lib.toList_data]
    cases hc : s.data.toList with
    | nil => exact absurd (by rw [← txt_list s, hc]; rfl) hse
    | cons a r => rfl
  clear h hrd hNN hs hlen hlens hth hp1 hp2 hp3 hp4 h1 h2 h3 hse
  go_enter Try.func76, Try.ntmps76
  go_wp2_with fail
  refine Hrd.out.mono ?_
  rintro e w1 ⟨rfl, hb1⟩
  have HT0 := Lib.hid (RTurns.below HL.out.2.1 hb1)
  clear hb1
  have hc := HT0.out.next fun F1 hA => rdel_at hA NN (by have := HL.out.2.2.2; omega)
  rw [← Hp1.out] at hc
  rw [ep1] at hc
  have Hc1 := Lib.hid hc
  clear hc
  go_wp2_with fail
  refine Hc1.out.mono ?_
  rintro e w2 ⟨rfl, ht⟩
  have HT1 := Lib.hid ht
  clear ht
  have hc := HT1.out.next fun F1 hA => rappend_at hA NN s HL.out.2.2.1 (by have := HL.out.1.1; omega)
  rw [← Hp2.out] at hc
  rw [ep2] at hc
  have Hc2 := Lib.hid hc
  clear hc
  go_wp2_with fail
  refine Hc2.out.mono ?_
  rintro e w3 ⟨rfl, ht⟩
  have HT2 := Lib.hid ht
  clear ht
  have hc := HT2.out.next fun F1 hA => rsync_at hA NN HL.out.1.2.1
  rw [← Hp3.out] at hc
  rw [ep3] at hc
  have Hc3 := Lib.hid hc
  clear hc
  go_wp2_with fail
  refine Hc3.out.mono ?_
  rintro e w4 ⟨rfl, ht⟩
  have HT3 := Lib.hid ht
  clear ht
  have hc := HT3.out.next fun F1 hA => rren_at hA NN n HL.out.1.2.2.1
  rw [← Hp4.out] at hc
  have Hc4 := Lib.hid hc
  clear hc
  go_wp2_with fail
  refine Hc4.out.mono ?_
  rintro e w5 ⟨rfl, ht⟩
  have HT4 := Lib.hid ht
  clear ht
  go_wp2_with fail
  go_ret
  exact ⟨rfl, HT4.out⟩
set_option maxRecDepth 100000 in
set_option maxHeartbeats 800000 in
theorem rswap_nB (h : RAt w x st F) (n s : ByteArray) (hn : (n.size : Int) ≤ 1000) (hs : (s.size : Int) ≤ 281474976710656) (hlen : st.files.length < 999999) (hth : rdThere st.files (newName n) = false) (hse : s = ⟨#[]⟩) :
    Calls Try.prog 76 #[.pointer (some ⟨x, 0, none⟩), .string n, .string s] w fun e w' => e = .returned (.int .i64 (St.del n st).2) ∧ RTurns w x F (St.del n st).1 w' := by
  obtain ⟨NN, hNN⟩ : ∃ NN, NN = newName n := ⟨_, rfl⟩
  have hnn : n ++ ⟨#[46, 110, 101, 119]⟩ = NN := by rw [hNN]; rfl
  have hnz : ¬ 9223372036854775807 < n.size + 4 := by omega
  rw [← hNN] at hth
  try rw [← hNN]
  have hrd := rread_at h NN (by omega)
  rw [hth] at hrd
  have Hrd := Lib.hid hrd
  obtain ⟨pB, hpB⟩ : ∃ p, p = (St.del n st) := ⟨_, rfl⟩
  rw [← hpB]
  have hlens : True := by
    trivial
  have HL := Lib.hid (And.intro hlens (And.intro h (And.intro hs hlen)))
  have HpB := Lib.hid hpB
  subst hse
  clear h hrd hNN hs hlen hlens hth hpB 
  go_enter Try.func76, Try.ntmps76
  go_wp2_with fail
  refine Hrd.out.mono ?_
  rintro e w1 ⟨rfl, hb1⟩
  have HT0 := Lib.hid (RTurns.below HL.out.2.1 hb1)
  clear hb1
  have hc := HT0.out.next fun F1 hA => rdel_at hA n (by have := HL.out.2.2.2; omega)
  rw [← HpB.out] at hc
  have Hc1 := Lib.hid hc
  clear hc
  go_wp2_with fail
  refine Hc1.out.mono ?_
  rintro e w2 ⟨rfl, ht⟩
  have HT1 := Lib.hid ht
  clear ht
  go_wp2_with fail
  go_ret
  exact ⟨rfl, HT1.out⟩
set_option maxRecDepth 100000 in
set_option maxHeartbeats 800000 in
theorem rswap_nC (h : RAt w x st F) (n s : ByteArray) (hn : (n.size : Int) ≤ 1000) (hs : (s.size : Int) ≤ 281474976710656) (hlen : st.files.length < 999999) (hth : rdThere st.files (newName n) = false) (hse : s ≠ ⟨#[]⟩) (h2 : (St.append st (newName n) s.data.toList).2 ≠ 0) :
    Calls Try.prog 76 #[.pointer (some ⟨x, 0, none⟩), .string n, .string s] w fun e w' => e = .returned (.int .i64 (St.append st (newName n) s.data.toList).2) ∧ RTurns w x F (St.append st (newName n) s.data.toList).1 w' := by
  obtain ⟨NN, hNN⟩ : ∃ NN, NN = newName n := ⟨_, rfl⟩
  have hnn : n ++ ⟨#[46, 110, 101, 119]⟩ = NN := by rw [hNN]; rfl
  have hnz : ¬ 9223372036854775807 < n.size + 4 := by omega
  rw [← hNN] at hth
  try rw [← hNN]
  rw [← hNN] at h2
  have hrd := rread_at h NN (by omega)
  rw [hth] at hrd
  have Hrd := Lib.hid hrd
  obtain ⟨p2, hp2⟩ : ∃ p, p = (St.append st NN s.data.toList) := ⟨_, rfl⟩
  rw [← hp2]
  try rw [← hp2] at h2
  have hlens : True := by
    trivial
  have HL := Lib.hid (And.intro hlens (And.intro h (And.intro hs hlen)))
  have Hp2 := Lib.hid hp2
  have ep2 : (p2.2 == 0) = false := by simpa using h2
  have fp2 : ¬ p2.2 = 0 := h2
  have hsl : s.toList.isEmpty = false := by
    rw [Lib.toList_data]
    cases hc : s.data.toList with
    | nil => exact absurd (by rw [← txt_list s, hc]; rfl) hse
    | cons a r => rfl
  clear h hrd hNN hs hlen hlens hth hp2 h2 hse
  go_enter Try.func76, Try.ntmps76
  go_wp2_with fail
  refine Hrd.out.mono ?_
  rintro e w1 ⟨rfl, hb1⟩
  have HT0 := Lib.hid (RTurns.below HL.out.2.1 hb1)
  clear hb1
  have hc := HT0.out.next fun F1 hA => rappend_at hA NN s HL.out.2.2.1 (by have := HL.out.2.2.2; omega)
  rw [← Hp2.out] at hc
  have Hc1 := Lib.hid hc
  clear hc
  go_wp2_with fail
  refine Hc1.out.mono ?_
  rintro e w2 ⟨rfl, ht⟩
  have HT1 := Lib.hid ht
  clear ht
  go_wp2_with fail
  go_ret
  exact ⟨rfl, HT1.out⟩
set_option maxRecDepth 100000 in
set_option maxHeartbeats 800000 in
theorem rswap_nD (h : RAt w x st F) (n s : ByteArray) (hn : (n.size : Int) ≤ 1000) (hs : (s.size : Int) ≤ 281474976710656) (hlen : st.files.length < 999999) (hth : rdThere st.files (newName n) = false) (hse : s ≠ ⟨#[]⟩) (h2 : (St.append st (newName n) s.data.toList).2 = 0) (h3 : (St.sync (newName n) (St.append st (newName n) s.data.toList).1).2 ≠ 0) :
    Calls Try.prog 76 #[.pointer (some ⟨x, 0, none⟩), .string n, .string s] w fun e w' => e = .returned (.int .i64 (St.sync (newName n) (St.append st (newName n) s.data.toList).1).2) ∧ RTurns w x F (St.sync (newName n) (St.append st (newName n) s.data.toList).1).1 w' := by
  obtain ⟨NN, hNN⟩ : ∃ NN, NN = newName n := ⟨_, rfl⟩
  have hnn : n ++ ⟨#[46, 110, 101, 119]⟩ = NN := by rw [hNN]; rfl
  have hnz : ¬ 9223372036854775807 < n.size + 4 := by omega
  rw [← hNN] at hth
  try rw [← hNN]
  rw [← hNN] at h2
  rw [← hNN] at h3
  have hrd := rread_at h NN (by omega)
  rw [hth] at hrd
  have Hrd := Lib.hid hrd
  obtain ⟨p2, hp2⟩ : ∃ p, p = (St.append st NN s.data.toList) := ⟨_, rfl⟩
  obtain ⟨p3, hp3⟩ : ∃ p, p = (St.sync NN p2.1) := ⟨_, rfl⟩
  rw [← hp2]
  rw [← hp3]
  try rw [← hp2] at h2
  try rw [← hp3] at h2
  try rw [← hp2] at h3
  try rw [← hp3] at h3
  have hlens : p2.1.files.length < 1000000 ∧ True := by
    have l2 := append_len st NN s.data.toList
    rw [← hp2] at l2
    exact ⟨by omega, trivial⟩
  have HL := Lib.hid (And.intro hlens (And.intro h (And.intro hs hlen)))
  have Hp2 := Lib.hid hp2
  have Hp3 := Lib.hid hp3
  have ep2 : p2.2 = 0 := h2
  have ep3 : (p3.2 == 0) = false := by simpa using h3
  have fp3 : ¬ p3.2 = 0 := h3
  have hsl : s.toList.isEmpty = false := by
    rw [Lib.toList_data]
    cases hc : s.data.toList with
    | nil => exact absurd (by rw [← txt_list s, hc]; rfl) hse
    | cons a r => rfl
  clear h hrd hNN hs hlen hlens hth hp2 hp3 h2 h3 hse
  go_enter Try.func76, Try.ntmps76
  go_wp2_with fail
  refine Hrd.out.mono ?_
  rintro e w1 ⟨rfl, hb1⟩
  have HT0 := Lib.hid (RTurns.below HL.out.2.1 hb1)
  clear hb1
  have hc := HT0.out.next fun F1 hA => rappend_at hA NN s HL.out.2.2.1 (by have := HL.out.2.2.2; omega)
  rw [← Hp2.out] at hc
  rw [ep2] at hc
  have Hc1 := Lib.hid hc
  clear hc
  go_wp2_with fail
  refine Hc1.out.mono ?_
  rintro e w2 ⟨rfl, ht⟩
  have HT1 := Lib.hid ht
  clear ht
  have hc := HT1.out.next fun F1 hA => rsync_at hA NN HL.out.1.1
  rw [← Hp3.out] at hc
  have Hc2 := Lib.hid hc
  clear hc
  go_wp2_with fail
  refine Hc2.out.mono ?_
  rintro e w3 ⟨rfl, ht⟩
  have HT2 := Lib.hid ht
  clear ht
  go_wp2_with fail
  go_ret
  exact ⟨rfl, HT2.out⟩
set_option maxRecDepth 100000 in
set_option maxHeartbeats 800000 in
theorem rswap_nE (h : RAt w x st F) (n s : ByteArray) (hn : (n.size : Int) ≤ 1000) (hs : (s.size : Int) ≤ 281474976710656) (hlen : st.files.length < 999999) (hth : rdThere st.files (newName n) = false) (hse : s ≠ ⟨#[]⟩) (h2 : (St.append st (newName n) s.data.toList).2 = 0) (h3 : (St.sync (newName n) (St.append st (newName n) s.data.toList).1).2 = 0) :
    Calls Try.prog 76 #[.pointer (some ⟨x, 0, none⟩), .string n, .string s] w fun e w' => e = .returned (.int .i64 (St.ren (newName n) n (St.sync (newName n) (St.append st (newName n) s.data.toList).1).1).2) ∧ RTurns w x F (St.ren (newName n) n (St.sync (newName n) (St.append st (newName n) s.data.toList).1).1).1 w' := by
  obtain ⟨NN, hNN⟩ : ∃ NN, NN = newName n := ⟨_, rfl⟩
  have hnn : n ++ ⟨#[46, 110, 101, 119]⟩ = NN := by rw [hNN]; rfl
  have hnz : ¬ 9223372036854775807 < n.size + 4 := by omega
  rw [← hNN] at hth
  try rw [← hNN]
  rw [← hNN] at h2
  rw [← hNN] at h3
  have hrd := rread_at h NN (by omega)
  rw [hth] at hrd
  have Hrd := Lib.hid hrd
  obtain ⟨p2, hp2⟩ : ∃ p, p = (St.append st NN s.data.toList) := ⟨_, rfl⟩
  obtain ⟨p3, hp3⟩ : ∃ p, p = (St.sync NN p2.1) := ⟨_, rfl⟩
  obtain ⟨p4, hp4⟩ : ∃ p, p = (St.ren NN n p3.1) := ⟨_, rfl⟩
  rw [← hp2]
  rw [← hp3]
  rw [← hp4]
  try rw [← hp2] at h2
  try rw [← hp3] at h2
  try rw [← hp4] at h2
  try rw [← hp2] at h3
  try rw [← hp3] at h3
  try rw [← hp4] at h3
  have hlens : p2.1.files.length < 1000000 ∧ p3.1.files.length < 1000000 ∧ True := by
    have l2 := append_len st NN s.data.toList
    rw [← hp2] at l2
    have l3 := sync_len p2.1 NN
    rw [← hp3] at l3
    exact ⟨by omega, by omega, trivial⟩
  have HL := Lib.hid (And.intro hlens (And.intro h (And.intro hs hlen)))
  have Hp2 := Lib.hid hp2
  have Hp3 := Lib.hid hp3
  have Hp4 := Lib.hid hp4
  have ep2 : p2.2 = 0 := h2
  have ep3 : p3.2 = 0 := h3
  have hsl : s.toList.isEmpty = false := by
    rw [Lib.toList_data]
    cases hc : s.data.toList with
    | nil => exact absurd (by rw [← txt_list s, hc]; rfl) hse
    | cons a r => rfl
  clear h hrd hNN hs hlen hlens hth hp2 hp3 hp4 h2 h3 hse
  go_enter Try.func76, Try.ntmps76
  go_wp2_with fail
  refine Hrd.out.mono ?_
  rintro e w1 ⟨rfl, hb1⟩
  have HT0 := Lib.hid (RTurns.below HL.out.2.1 hb1)
  clear hb1
  have hc := HT0.out.next fun F1 hA => rappend_at hA NN s HL.out.2.2.1 (by have := HL.out.2.2.2; omega)
  rw [← Hp2.out] at hc
  rw [ep2] at hc
  have Hc1 := Lib.hid hc
  clear hc
  go_wp2_with fail
  refine Hc1.out.mono ?_
  rintro e w2 ⟨rfl, ht⟩
  have HT1 := Lib.hid ht
  clear ht
  have hc := HT1.out.next fun F1 hA => rsync_at hA NN HL.out.1.1
  rw [← Hp3.out] at hc
  rw [ep3] at hc
  have Hc2 := Lib.hid hc
  clear hc
  go_wp2_with fail
  refine Hc2.out.mono ?_
  rintro e w3 ⟨rfl, ht⟩
  have HT2 := Lib.hid ht
  clear ht
  have hc := HT2.out.next fun F1 hA => rren_at hA NN n HL.out.1.2.1
  rw [← Hp4.out] at hc
  have Hc3 := Lib.hid hc
  clear hc
  go_wp2_with fail
  refine Hc3.out.mono ?_
  rintro e w4 ⟨rfl, ht⟩
  have HT3 := Lib.hid ht
  clear ht
  go_wp2_with fail
  go_ret
  exact ⟨rfl, HT3.out⟩
end
end Go.Proofs.Ytmjeanbbhacnaaa
namespace Go.Proofs.Ytmjeanbbhacnaaa
open Go.RowKit
attribute [local go_sem ↓] Go.wp_at_zero Go.wp_at_succ
theorem RTurns.from_below {w w1 w2 : World} {x : Nat} {F : Nat → Prop} {st : St} (hb : Below w.heap.size w w1) (h : RTurns w1 x F st w2) : RTurns w x F st w2 := by
  obtain ⟨F', h1, h2⟩ := h
  exact ⟨F', h1, (Eff.below hb).trans h2⟩
section
variable {w : World} {x : Nat} {st : St} {F : Nat → Prop}
theorem rswap_at (h : RAt w x st F) (n s : ByteArray) (hn : (n.size : Int) ≤ 1000) (hs : (s.size : Int) ≤ 281474976710656) (hlen : st.files.length < 999999) :
    Calls Try.prog 76 #[.pointer (some ⟨x, 0, none⟩), .string n, .string s] w fun e w' => e = .returned (.int .i64 (St.swap n s.data.toList st).2) ∧ RTurns w x F (St.swap n s.data.toList st).1 w' := by
  have key : ∀ s1 : St, ∀ r, St.clean n st = (s1, 0) → (s = ⟨#[]⟩ → r = St.del n s1) → (s ≠ ⟨#[]⟩ → r = St.until [St.app (newName n) s.data.toList, St.sync (newName n), St.ren (newName n) n] s1) → St.swap n s.data.toList st = r := by
    intro s1 r hc h1 h2
    unfold St.swap
    by_cases hse : s = ⟨#[]⟩
    · rw [if_pos (by rw [hse]), until_go (by rw [hc]), hc, until_one, h1 hse]
    · rw [if_neg (fun e => hse (by rw [← txt_list s, e]; rfl)), until_go (by rw [hc]), hc, h2 hse]
  cases hth : rdThere st.files (newName n) with
  | true =>
    have hcl : St.clean n st = St.del (newName n) st := by unfold St.clean; rw [hth]; rfl
    by_cases h1 : (St.del (newName n) st).2 = 0
    · have hcl2 : St.clean n st = ((St.del (newName n) st).1, 0) := by rw [hcl, ← h1]
      by_cases hse : s = ⟨#[]⟩
      · rw [key _ _ hcl2 (fun _ => rfl) (fun e => absurd hse e)]
        exact rswap_yB h n s hn hs hlen hth h1 hse
      · by_cases h2 : (St.append (St.del (newName n) st).1 (newName n) s.data.toList).2 = 0
        · by_cases h3 : (St.sync (newName n) (St.append (St.del (newName n) st).1 (newName n) s.data.toList).1).2 = 0
          · rw [key _ (St.ren (newName n) n (St.sync (newName n) (St.append (St.del (newName n) st).1 (newName n) s.data.toList).1).1) hcl2 (fun e => absurd e hse) (fun _ => by rw [until_go (g := St.app _ _) h2]; simp only [St.app]; rw [until_go (g := St.sync _) h3, until_one])]
            exact rswap_yE h n s hn hs hlen hth h1 hse h2 h3
          · rw [key _ (St.sync (newName n) (St.append (St.del (newName n) st).1 (newName n) s.data.toList).1) hcl2 (fun e => absurd e hse) (fun _ => by rw [until_go (g := St.app _ _) h2]; simp only [St.app]; rw [until_stop (g := St.sync _) h3])]
            exact rswap_yD h n s hn hs hlen hth h1 hse h2 h3
        · rw [key _ _ hcl2 (fun e => absurd e hse) (fun _ => by rw [until_stop (g := St.app _ _) h2])]
          exact rswap_yC h n s hn hs hlen hth h1 hse h2
    · have e : St.swap n s.data.toList st = St.del (newName n) st := by
        unfold St.swap
        split
        · rw [until_stop (by rw [hcl]; exact h1), hcl]
        · rw [until_stop (by rw [hcl]; exact h1), hcl]
      rw [e]
      exact rswap_yA h n s hn hs hlen hth h1
  | false =>
    have hcl2 : St.clean n st = (st, 0) := by unfold St.clean; rw [hth]; rfl
    by_cases hse : s = ⟨#[]⟩
    · rw [key _ _ hcl2 (fun _ => rfl) (fun e => absurd hse e)]
      exact rswap_nB h n s hn hs hlen hth hse
    · by_cases h2 : (St.append st (newName n) s.data.toList).2 = 0
      · by_cases h3 : (St.sync (newName n) (St.append st (newName n) s.data.toList).1).2 = 0
        · rw [key _ (St.ren (newName n) n (St.sync (newName n) (St.append st (newName n) s.data.toList).1).1) hcl2 (fun e => absurd e hse) (fun _ => by rw [until_go (g := St.app _ _) h2]; simp only [St.app]; rw [until_go (g := St.sync _) h3, until_one])]
          exact rswap_nE h n s hn hs hlen hth hse h2 h3
        · rw [key _ (St.sync (newName n) (St.append st (newName n) s.data.toList).1) hcl2 (fun e => absurd e hse) (fun _ => by rw [until_go (g := St.app _ _) h2]; simp only [St.app]; rw [until_stop (g := St.sync _) h3])]
          exact rswap_nD h n s hn hs hlen hth hse h2 h3
      · rw [key _ _ hcl2 (fun e => absurd e hse) (fun _ => by rw [until_stop (g := St.app _ _) h2])]
        exact rswap_nC h n s hn hs hlen hth hse h2
set_option maxRecDepth 100000 in
theorem rreplace_at (h : RAt w x st F) (n s : ByteArray) (hn : (n.size : Int) ≤ 1000) (hlen : st.files.length < 999999) :
    Calls Try.prog 55 #[.pointer (some ⟨x, 0, none⟩), .string n, .string s] w fun e w' => e = .returned (.int .i64 (St.replace n s.data.toList st).2) ∧ RTurns w x F (St.replace n s.data.toList st).1 w' := by
  have hls := list_size s
  by_cases hs : (65536 : Int) < s.size
  · have hst : St.replace n s.data.toList st = (st, 3) := by unfold St.replace; rw [if_pos (by omega)]
    rw [hst]
    have Hf := Lib.hid (rframe_long s hs)
    have HH := Lib.hid h
    clear h hst
    go_enter Try.func55, Try.ntmps55
    go_wp2_with fail
    refine (Hf.out _).mono ?_
    rintro e w1 ⟨rfl, rfl⟩
    go_wp2_with fail
    go_ret
    exact ⟨rfl, .refl HH.out⟩
  · have hst : St.replace n s.data.toList st = St.swap n (frameL s.data.toList) st := by unfold St.replace; rw [if_neg (by omega)]
    rw [hst]
    obtain ⟨res, hres⟩ : ∃ r, r = St.swap n (frameL s.data.toList) st := ⟨_, rfl⟩
    rw [← hres]
    have hf := rframe_any s (by omega)
    obtain ⟨X, hX⟩ : ∃ X : ByteArray, X = ⟨(frameL s.data.toList).toArray⟩ := ⟨_, rfl⟩
    have hXl : X.data.toList = frameL s.data.toList := by rw [hX]
    have hXs : X.size ≤ 281474976710656 := by rw [hX]; exact frame_size s (by omega)
    rw [← hX] at hf
    have hsw : ∀ w1, Below w.heap.size w w1 → Calls Try.prog 76 #[.pointer (some ⟨x, 0, none⟩), .string n, .string X] w1 fun e w' => e = .returned (.int .i64 res.2) ∧ RTurns w x F res.1 w' := fun w1 hb => by
      refine (rswap_at (h.below hb) n X hn (by omega) hlen).mono ?_
      rintro e w' ⟨rfl, ht⟩
      rw [hres, ← hXl]
      exact ⟨rfl, .from_below hb ht⟩
    have Hf := Lib.hid (And.intro hf hsw)
    clear hf hsw h hst hX hXl hXs hls hres
    go_enter Try.func55, Try.ntmps55
    go_wp2_with fail
    refine (Hf.out.1 _).mono ?_
    rintro e w1 ⟨rfl, hb1⟩
    have Hb1 := Lib.hid hb1
    clear hb1
    go_wp2_with fail
    refine (Hf.out.2 _ Hb1.out).mono ?_
    rintro e w2 ⟨rfl, ht⟩
    have Ht := Lib.hid ht
    clear ht
    go_wp2_with fail
    go_ret
    exact ⟨rfl, Ht.out⟩
set_option maxRecDepth 100000 in
theorem radd_at (h : RAt w x st F) (n s : ByteArray) (hlen : st.files.length < 999999) :
    Calls Try.prog 59 #[.pointer (some ⟨x, 0, none⟩), .string n, .string s] w fun e w' => e = .returned (.int .i64 (St.add n s.data.toList st).2) ∧ RTurns w x F (St.add n s.data.toList st).1 w' := by
  have hls := list_size s
  by_cases hs : (65536 : Int) < s.size
  · have hst : St.add n s.data.toList st = (st, 3) := by unfold St.add; rw [if_pos (by omega)]
    rw [hst]
    have Hf := Lib.hid (rframe_long s hs)
    have HH := Lib.hid h
    clear h hst
    go_enter Try.func59, Try.ntmps59
    go_wp2_with fail
    refine (Hf.out _).mono ?_
    rintro e w1 ⟨rfl, rfl⟩
    go_wp2_with fail
    go_ret
    exact ⟨rfl, .refl HH.out⟩
  · have hst : St.add n s.data.toList st = St.until [St.app n (frameL s.data.toList), St.sync n] st := by unfold St.add; rw [if_neg (by omega)]
    rw [hst]
    have hf := rframe_any s (by omega)
    obtain ⟨X, hX⟩ : ∃ X : ByteArray, X = ⟨(frameL s.data.toList).toArray⟩ := ⟨_, rfl⟩
    have hXl : X.data.toList = frameL s.data.toList := by rw [hX]
    have hXs : X.size ≤ 281474976710656 := by rw [hX]; exact frame_size s (by omega)
    rw [← hX] at hf
    obtain ⟨p1, hp1⟩ : ∃ p, p = St.append st n (frameL s.data.toList) := ⟨_, rfl⟩
    have hap : ∀ w1, Below w.heap.size w w1 → Calls Try.prog 56 #[.pointer (some ⟨x, 0, none⟩), .string n, .string X] w1 fun e w' => e = .returned (.int .i64 p1.2) ∧ RTurns w x F p1.1 w' := fun w1 hb => by
      refine (rappend_at (h.below hb) n X (by omega) (by omega)).mono ?_
      rintro e w' ⟨rfl, ht⟩
      rw [hp1, ← hXl]
      exact ⟨rfl, .from_below hb ht⟩
    have hl1 : p1.1.files.length < 1000000 := by
      have := append_len st n (frameL s.data.toList)
      rw [← hp1] at this
      omega
    by_cases h1 : p1.2 = 0
    · have e : St.until [St.app n (frameL s.data.toList), St.sync n] st = St.sync n p1.1 := by
        rw [until_go (g := St.app _ _) (by show (St.append _ _ _).2 = 0; rw [← hp1]; exact h1), until_one, hp1]; rfl
      rw [e]
      obtain ⟨p2, hp2⟩ : ∃ p, p = St.sync n p1.1 := ⟨_, rfl⟩
      rw [← hp2]
      rw [h1] at hap
      have Hf := Lib.hid (And.intro hf (And.intro hap (And.intro hl1 hp2)))
      clear hf hap h hst hX hXl hXs hls hp1 hl1 h1 e hp2
      go_enter Try.func59, Try.ntmps59
      go_wp2_with fail
      refine (Hf.out.1 _).mono ?_
      rintro e w1 ⟨rfl, hb1⟩
      have Hb1 := Lib.hid hb1
      clear hb1
      go_wp2_with fail
      refine (Hf.out.2.1 _ Hb1.out).mono ?_
      rintro e w2 ⟨rfl, ht⟩
      have hc := ht.next fun F1 hA => rsync_at hA n Hf.out.2.2.1
      rw [← Hf.out.2.2.2] at hc
      have Hc := Lib.hid hc
      clear ht hc
      go_wp2_with fail
      refine Hc.out.mono ?_
      rintro e w3 ⟨rfl, ht⟩
      have Ht := Lib.hid ht
      clear ht
      go_wp2_with fail
      go_ret
      exact ⟨rfl, Ht.out⟩
    · have e : St.until [St.app n (frameL s.data.toList), St.sync n] st = p1 := by
        rw [until_stop (g := St.app _ _) (by show (St.append _ _ _).2 ≠ 0; rw [← hp1]; exact h1), hp1]; rfl
      rw [e]
      have e1 : (p1.2 == 0) = false := by simpa using h1
      have Hf := Lib.hid (And.intro hf hap)
      clear hf hap h hst hX hXl hXs hls hp1 hl1 e
      go_enter Try.func59, Try.ntmps59
      go_wp2_with fail
      refine (Hf.out.1 _).mono ?_
      rintro e w1 ⟨rfl, hb1⟩
      have Hb1 := Lib.hid hb1
      clear hb1
      go_wp2_with fail
      refine (Hf.out.2 _ Hb1.out).mono ?_
      rintro e w2 ⟨rfl, ht⟩
      have Ht := Lib.hid ht
      clear ht
      go_wp2_with fail
      go_ret
      exact ⟨rfl, Ht.out⟩
set_option maxRecDepth 100000 in
theorem rall_at (h : RAt w x st F) (n : ByteArray) (hlen : st.files.length < 1000000) :
    Calls Try.prog 32 #[.pointer (some ⟨x, 0, none⟩), .string n] w fun e w' => ∃ (gb : Option Nat) (cap : Nat) (ns : List ByteArray),
      e = .returned (.slice (gb.map fun b => ⟨b, 0, none⟩) ns.length cap) ∧ (SRowO w' gb cap ns ∧ ns.map (·.data.toList) = framesL (rdL st n)) ∧ Below w.heap.size w w' := by
  have hread := rread_at h n hlen
  obtain ⟨X, hX⟩ : ∃ X, X = rdText st.files n := ⟨_, rfl⟩
  have hXs : X.size ≤ 1099511627776 := by rw [hX]; exact rdText_size h.small n
  have hXl : X.data.toList = rdL st n := by rw [hX]; rfl
  rw [← hX] at hread
  have hfr := rframes_any X hXs
  rw [hXl] at hfr
  have H := Lib.hid (And.intro hread hfr)
  clear hread hfr hX hXs hXl h hlen
  go_enter Try.func32, Try.ntmps32
  go_wp2_with fail
  refine H.out.1.mono ?_
  rintro e w1 ⟨rfl, hb1⟩
  have Hb1 := Lib.hid hb1
  clear hb1
  go_wp2_with fail
  refine (H.out.2 _).mono ?_
  rintro e w2 ⟨gb, cap, ns, rfl, hR, hb⟩
  have Hx := Lib.hid (And.intro hR hb)
  clear hR hb
  obtain ⟨a, ha⟩ : ∃ a : Option Addr, a = gb.map fun b => ⟨b, 0, none⟩ := ⟨_, rfl⟩
  rw [← ha]
  have Ha := Lib.hid ha
  clear ha
  go_wp2_with fail
  go_ret
  exact ⟨gb, cap, ns, by rw [← Ha.out]; rfl, ⟨Hx.out.1.1, Hx.out.1.2.1⟩, Hb1.out.trans (Hx.out.2.mono Hb1.out.size)⟩
set_option maxRecDepth 100000 in
set_option maxHeartbeats 800000 in
theorem rmend_at (h : RAt w x st F) (n : ByteArray) (hn : (n.size : Int) ≤ 1000) (hlen : st.files.length < 999999) :
    Calls Try.prog 54 #[.pointer (some ⟨x, 0, none⟩), .string n] w fun e w' => e = .returned (.int .i64 (St.mend n st).2) ∧ RTurns w x F (St.mend n st).1 w' := by
  have hread := rread_at h n (by omega)
  obtain ⟨X, hX⟩ : ∃ X, X = rdText st.files n := ⟨_, rfl⟩
  have hXs : X.size ≤ 1099511627776 := by rw [hX]; exact rdText_size h.small n
  have hXl : X.data.toList = rdL st n := by rw [hX]; rfl
  rw [← hX] at hread
  have hfr := rframes_any X hXs
  rw [hXl] at hfr
  obtain ⟨p, hp⟩ : ∃ p, p = fsize (framesL (rdL st n)) := ⟨_, rfl⟩
  rw [← hp] at hfr
  have hpl : p ≤ X.size := by
    rw [hp, ← list_size, hXl]
    obtain ⟨q, _, h2, h3⟩ := framesL_size (rdL st n)
    omega
  have hll : (rdL st n).length = X.size := by rw [← hXl, list_size]
  obtain ⟨res, hres⟩ : ∃ r, r = St.mend n st := ⟨_, rfl⟩
  rw [← hres]
  have hres2 : res = if p < X.size then St.swap n ((rdL st n).take p) st else (st, 0) := by rw [hres]; unfold St.mend; rw [← hp, hll]
  by_cases hlt : (p : Int) < X.size
  · rw [if_pos (by omega)] at hres2
    have hth : rdThere st.files n = true := by
      unfold rdThere
      cases hg : fget st.files n with
      | some f => rfl
      | none =>
        have : X = ⟨#[]⟩ := by rw [hX]; unfold rdText; rw [hg]
        rw [this] at hlt
        have h0 : (⟨#[]⟩ : ByteArray).size = 0 := rfl
        omega
    rw [hth] at hread
    have hsw : ∀ w1, Below w.heap.size w w1 → Calls Try.prog 76 #[.pointer (some ⟨x, 0, none⟩), .string n, .string (X.extract 0 p)] w1 fun e w' => e = .returned (.int .i64 res.2) ∧ RTurns w x F res.1 w' := fun w1 hb => by
      refine (rswap_at (h.below hb) n (X.extract 0 p) hn (by rw [cut_size _ _ hpl]; omega) hlen).mono ?_
      rintro e w' ⟨rfl, ht⟩
      rw [cut_list, hXl, ← hres2] at ht
      rw [cut_list, hXl, ← hres2]
      exact ⟨rfl, .from_below hb ht⟩
    have H := Lib.hid (And.intro hread (And.intro hfr hsw))
    have hp0 : (0 : Int) ≤ (p : Int) := by omega
    have hpe : ((p : Int) == (X.size : Int)) = false := by simp; omega
    clear hread hfr hX hXs hXl h hsw hres hres2 hp hll hpl hth hlen
    go_enter Try.func54, Try.ntmps54
    go_wp2_with fail
    refine H.out.1.mono ?_
    rintro e w1 ⟨rfl, hb1⟩
    have Hb1 := Lib.hid hb1
    clear hb1
    go_wp2_with fail
    refine (H.out.2.1 _).mono ?_
    rintro e w2 ⟨gb, cap, ns, rfl, hR, hb⟩
    have Hb := Lib.hid hb
    clear hR hb
    obtain ⟨a, ha⟩ : ∃ a : Option Addr, a = gb.map fun b => ⟨b, 0, none⟩ := ⟨_, rfl⟩
    rw [← ha]
    clear ha
    go_wp2_with fail
    refine (H.out.2.2 _ (Hb1.out.trans (Hb.out.mono Hb1.out.size))).mono ?_
    rintro e w3 ⟨rfl, ht⟩
    have Ht := Lib.hid ht
    clear ht
    go_wp2_with fail
    go_ret
    exact ⟨rfl, Ht.out⟩
  · rw [if_neg (by omega)] at hres2
    subst hres2
    have hpe : (p : Int) = (X.size : Int) := by omega
    obtain ⟨B, hB⟩ : ∃ B, B = rdThere st.files n := ⟨_, rfl⟩
    rw [← hB] at hread
    have H := Lib.hid (And.intro hread (And.intro hfr h))
    clear hread hfr hX hXs hXl h hres hp hll hpl hB hlen
    cases B with
    | false =>
      go_enter Try.func54, Try.ntmps54
      go_wp2_with fail
      refine H.out.1.mono ?_
      rintro e w1 ⟨rfl, hb1⟩
      have Hb1 := Lib.hid hb1
      clear hb1
      go_wp2_with fail
      refine (H.out.2.1 _).mono ?_
      rintro e w2 ⟨gb, cap, ns, rfl, hR, hb⟩
      have Hb := Lib.hid hb
      clear hR hb
      obtain ⟨a, ha⟩ : ∃ a : Option Addr, a = gb.map fun b => ⟨b, 0, none⟩ := ⟨_, rfl⟩
      rw [← ha]
      clear ha
      go_wp2_with fail
      go_ret
      exact ⟨rfl, .below H.out.2.2 (Hb1.out.trans (Hb.out.mono Hb1.out.size))⟩
    | true =>
      go_enter Try.func54, Try.ntmps54
      go_wp2_with fail
      refine H.out.1.mono ?_
      rintro e w1 ⟨rfl, hb1⟩
      have Hb1 := Lib.hid hb1
      clear hb1
      go_wp2_with fail
      refine (H.out.2.1 _).mono ?_
      rintro e w2 ⟨gb, cap, ns, rfl, hR, hb⟩
      have Hb := Lib.hid hb
      clear hR hb
      obtain ⟨a, ha⟩ : ∃ a : Option Addr, a = gb.map fun b => ⟨b, 0, none⟩ := ⟨_, rfl⟩
      rw [← ha]
      clear ha
      go_wp2_with fail
      go_ret
      exact ⟨rfl, .below H.out.2.2 (Hb1.out.trans (Hb.out.mono Hb1.out.size))⟩
set_option maxRecDepth 100000 in
set_option maxHeartbeats 800000 in
theorem rwhole_at (h : RAt w x st F) (n : ByteArray) (hlen : st.files.length < 1000000) :
    Calls Try.prog 29 #[.pointer (some ⟨x, 0, none⟩), .string n] w fun e w' => e = .returned (.tuple #[.string ⟨((wholeL (rdL st n)).getD []).toArray⟩, .bool (wholeL (rdL st n)).isSome]) ∧ Below w.heap.size w w' := by
  have hread := rread_at h n hlen
  obtain ⟨X, hX⟩ : ∃ X, X = rdText st.files n := ⟨_, rfl⟩
  have hXs : X.size ≤ 1099511627776 := by rw [hX]; exact rdText_size h.small n
  have hXl : X.data.toList = rdL st n := by rw [hX]; rfl
  have hll : (rdL st n).length = X.size := by rw [← hXl, list_size]
  rw [← hX] at hread
  have hfr := rframes_any X hXs
  rw [hXl] at hfr
  obtain ⟨p, hp⟩ : ∃ p, p = fsize (framesL (rdL st n)) := ⟨_, rfl⟩
  rw [← hp] at hfr
  have H := Lib.hid (And.intro hread hfr)
  have hw := wholeL_of (rdL st n)
  rw [← hp, hll] at hw
  clear hread hfr hX hXs hXl hll hp h hlen
  obtain ⟨ts, hts⟩ : ∃ ts, ts = framesL (rdL st n) := ⟨_, rfl⟩
  rw [← hts] at hw H
  rcases hw with ⟨t, ht, hps, hw⟩ | ⟨hne, hw⟩ | ⟨hne, hw⟩
  · rw [hw]
    obtain ⟨T, hT⟩ : ∃ T : ByteArray, T = ⟨t.toArray⟩ := ⟨_, rfl⟩
    have hT2 : (⟨((some t).getD []).toArray⟩ : ByteArray) = T := hT.symm
    rw [hT2]
    have Ht := Lib.hid (And.intro ht hT)
    have hpsI : (p : Int) = (X.size : Int) := by omega
    clear ht hw hts hT hT2 hps
    go_enter Try.func29, Try.ntmps29
    go_wp2_with fail
    refine H.out.1.mono ?_
    rintro e w1 ⟨rfl, hb1⟩
    have Hb1 := Lib.hid hb1
    clear hb1
    go_wp2_with fail
    refine (H.out.2 _).mono ?_
    rintro e w2 ⟨gb, cap, ns, rfl, ⟨hR, hns, hgb⟩, hb⟩
    rw [Ht.out.1] at hns
    have hl1 : ns.length = 1 := by have := congrArg List.length hns; simpa using this
    obtain ⟨b, rfl, hc⟩ := hR.cell 0 (by omega)
    have hn0 : ns[0]'(by omega) = T := by
      rcases ns with _ | ⟨x, r⟩
      · simp at hl1
      · simp only [List.map_cons, List.cons.injEq] at hns
        rw [Ht.out.2, ← hns.1]
        rfl
    rw [hn0] at hc
    have Hb := Lib.hid hb
    clear hR hns hgb hn0 hb
    rw [hl1]
    clear hl1
    go_wp2_with fail
    go_ret2
    exact ⟨rfl, Hb1.out.trans (Hb.out.mono Hb1.out.size)⟩
  · rw [hw]
    have Hne := Lib.hid hne
    clear hw hts hne
    go_enter Try.func29, Try.ntmps29
    go_wp2_with fail
    refine H.out.1.mono ?_
    rintro e w1 ⟨rfl, hb1⟩
    have Hb1 := Lib.hid hb1
    clear hb1
    go_wp2_with fail
    refine (H.out.2 _).mono ?_
    rintro e w2 ⟨gb, cap, ns, rfl, ⟨hR, hns, hgb⟩, hb⟩
    obtain ⟨l, hl⟩ : ∃ l, l = ns.length := ⟨_, rfl⟩
    have hl1 : ¬ (l : Int) = 1 := by have := Hne.out; rw [← hns, List.length_map, ← hl] at this; omega
    rw [← hl]
    obtain ⟨a, ha⟩ : ∃ a : Option Addr, a = gb.map fun b => ⟨b, 0, none⟩ := ⟨_, rfl⟩
    rw [← ha]
    have Hb := Lib.hid hb
    clear hR hns hgb hb hl ha
    go_wp2_with fail
    go_ret2
    exact ⟨rfl, Hb1.out.trans (Hb.out.mono Hb1.out.size)⟩
  · rw [hw]
    have hpI : ¬ (p : Int) = (X.size : Int) := by omega
    clear hw hts hne
    go_enter Try.func29, Try.ntmps29
    go_wp2_with fail
    refine H.out.1.mono ?_
    rintro e w1 ⟨rfl, hb1⟩
    have Hb1 := Lib.hid hb1
    clear hb1
    go_wp2_with fail
    refine (H.out.2 _).mono ?_
    rintro e w2 ⟨gb, cap, ns, rfl, ⟨hR, hns, hgb⟩, hb⟩
    obtain ⟨l, hl⟩ : ∃ l, l = ns.length := ⟨_, rfl⟩
    rw [← hl]
    obtain ⟨a, ha⟩ : ∃ a : Option Addr, a = gb.map fun b => ⟨b, 0, none⟩ := ⟨_, rfl⟩
    rw [← ha]
    have Hb := Lib.hid hb
    clear hR hns hgb hb hl ha
    by_cases hl1 : (l : Int) = 1
    · have e1 : l = 1 := by omega
      subst e1
      clear hl1
      go_wp2_with fail
      go_ret2
      exact ⟨rfl, Hb1.out.trans (Hb.out.mono Hb1.out.size)⟩
    · go_wp2_with fail
      go_ret2
      exact ⟨rfl, Hb1.out.trans (Hb.out.mono Hb1.out.size)⟩
end
end Go.Proofs.Ytmjeanbbhacnaaa
namespace Go.Proofs.Ytmjeanbbhacnaaa
open Go.RowKit
/-- The disk d in the state s1, the reference's x in s2, and the blocks X that are neither's. -/
def PairD (W0 w : World) (d x : Nat) (s1 s2 : St) (X : Nat → Prop) : Prop := ∃ F K, At w d s1 F ∧ RAt w x s2 K ∧ (∀ k, F k → W0.heap.size ≤ k) ∧ (∀ k, K k → W0.heap.size ≤ k) ∧ (∀ k, F k → ¬ K k) ∧ (∀ k, X k → ¬ F k ∧ ¬ K k ∧ k < w.heap.size) ∧ Below W0.heap.size W0 w
def Keep (X : Nat → Prop) (w w' : World) : Prop := ∀ k, X k → w'.heap[k]? = w.heap[k]?
section
variable {W0 w w' : World} {d x : Nat} {s1 s2 : St} {X : Nat → Prop}
theorem PairD.world (h : PairD W0 w d x s1 s2 X) : Below W0.heap.size W0 w := by
  obtain ⟨F, K, _, _, _, _, _, _, h7⟩ := h
  exact h7
theorem PairD.xlt (h : PairD W0 w d x s1 s2 X) {k : Nat} (hk : X k) : k < w.heap.size := by
  obtain ⟨F, K, _, _, _, _, _, h6, _⟩ := h
  exact (h6 k hk).2.2
theorem PairD.small (h : PairD W0 w d x s1 s2 X) : s1.Small := by
  obtain ⟨F, K, h1, _⟩ := h
  exact h1.small
/-- New blocks that are neither's. -/
theorem PairD.more (h : PairD W0 w d x s1 s2 X) (hb : Below w.heap.size w w') {X' : Nat → Prop} (hX : ∀ k, X' k → X k ∨ (w.heap.size ≤ k ∧ k < w'.heap.size)) : PairD W0 w' d x s1 s2 X' := by
  obtain ⟨F, K, h1, h2, h3, h4, h5, h6, h7⟩ := h
  refine ⟨F, K, h1.kept fun k hk => hb.block k (h1.lt hk), h2.below hb, h3, h4, h5, fun k hk => ?_, h7.trans (hb.mono h7.size)⟩
  rcases hX k hk with r | r
  · obtain ⟨a, b, c⟩ := h6 k r
    exact ⟨a, b, Nat.lt_of_lt_of_le c hb.size⟩
  · exact ⟨fun hf => by have := h1.lt hf; omega, fun hf => by have := h2.lt hf; omega, r.2⟩
theorem PairD.below (h : PairD W0 w d x s1 s2 X) (hb : Below w.heap.size w w') : PairD W0 w' d x s1 s2 X := h.more hb fun _ hk => .inl hk
theorem PairD.less (h : PairD W0 w d x s1 s2 X) {X' : Nat → Prop} (hX : ∀ k, X' k → X k) : PairD W0 w d x s1 s2 X' := h.more (Below.refl _ _) fun k hk => .inl (hX k hk)
theorem PairD.keep (h : PairD W0 w d x s1 s2 X) (hb : Below w.heap.size w w') : Keep X w w' := fun _ hk => hb.block _ (h.xlt hk)
theorem Calls.pd {s1' : St} {f : FuncId} {args : Array Value} {E : Ending → Prop} (h : PairD W0 w d x s1 s2 X) (hc : ∀ F, At w d s1 F → Calls Try.prog f args w fun e w' => E e ∧ Turns w d F s1' w') :
    Calls Try.prog f args w fun e w' => E e ∧ PairD W0 w' d x s1' s2 X ∧ Keep X w w' := by
  obtain ⟨F, K, h1, h2, h3, h4, h5, h6, h7⟩ := h
  refine (hc F h1).mono ?_
  rintro e w' ⟨he, F', k1, k2⟩
  obtain ⟨l1, l2⟩ := k2.low h3 h7
  have hK : Keep X w w' := fun k hk => k2.keep k (h6 k hk).2.2 (h6 k hk).1
  refine ⟨he, ⟨F', K, k1, h2.kept fun k hk => k2.keep k (h2.lt hk) (fun hf => h5 k hf hk), l1, h4, fun k hf hk => ?_, fun k hk => ⟨fun hf => ?_, (h6 k hk).2.1, Nat.lt_of_lt_of_le (h6 k hk).2.2 k2.size⟩, l2⟩, hK⟩
  · rcases k2.sub k hf with r | r
    · exact h5 k r hk
    · have := h2.lt hk; omega
  · rcases k2.sub k hf with r | r
    · exact (h6 k hk).1 r
    · have := (h6 k hk).2.2; omega
theorem Calls.px {s2' : St} {f : FuncId} {args : Array Value} {E : Ending → Prop} (h : PairD W0 w d x s1 s2 X) (hc : ∀ K, RAt w x s2 K → Calls Try.prog f args w fun e w' => E e ∧ RTurns w x K s2' w') :
    Calls Try.prog f args w fun e w' => E e ∧ PairD W0 w' d x s1 s2' X ∧ Keep X w w' := by
  obtain ⟨F, K, h1, h2, h3, h4, h5, h6, h7⟩ := h
  refine (hc K h2).mono ?_
  rintro e w' ⟨he, K', k1, k2⟩
  obtain ⟨l1, l2⟩ := k2.low h4 h7
  have hK : Keep X w w' := fun k hk => k2.keep k (h6 k hk).2.2 (h6 k hk).2.1
  refine ⟨he, ⟨F, K', h1.kept fun k hk => k2.keep k (h1.lt hk) (h5 k hk), k1, h3, l1, fun k hf hk => ?_, fun k hk => ⟨(h6 k hk).1, fun hf => ?_, Nat.lt_of_lt_of_le (h6 k hk).2.2 k2.size⟩, l2⟩, hK⟩
  · rcases k2.sub k hk with r | r
    · exact h5 k hf r
    · have := h1.lt hf; omega
  · rcases k2.sub k hf with r | r
    · exact (h6 k hk).2.1 r
    · have := (h6 k hk).2.2; omega
theorem d_add (h : PairD W0 w d x s1 s2 X) (n s : ByteArray) : Calls Try.prog 41 #[.pointer (some ⟨d, 0, none⟩), .string n, .string s] w fun e w' =>
    e = .returned (.int .i64 (St.add n s.data.toList s1).2) ∧ PairD W0 w' d x (St.add n s.data.toList s1).1 s2 X ∧ Keep X w w' := Calls.pd h fun _ hF => add_at hF n s
theorem x_add (h : PairD W0 w d x s1 s2 X) (n s : ByteArray) (hlen : s2.files.length < 999999) : Calls Try.prog 59 #[.pointer (some ⟨x, 0, none⟩), .string n, .string s] w fun e w' =>
    e = .returned (.int .i64 (St.add n s.data.toList s2).2) ∧ PairD W0 w' d x s1 (St.add n s.data.toList s2).1 X ∧ Keep X w w' := Calls.px h fun _ hF => radd_at hF n s hlen
theorem d_mend (h : PairD W0 w d x s1 s2 X) (n : ByteArray) (hn : (n.size : Int) ≤ 1000) : Calls Try.prog 42 #[.pointer (some ⟨d, 0, none⟩), .string n] w fun e w' =>
    e = .returned (.int .i64 (St.mend n s1).2) ∧ PairD W0 w' d x (St.mend n s1).1 s2 X ∧ Keep X w w' := Calls.pd h fun _ hF => mend_at hF n hn
theorem x_mend (h : PairD W0 w d x s1 s2 X) (n : ByteArray) (hn : (n.size : Int) ≤ 1000) (hlen : s2.files.length < 999999) : Calls Try.prog 54 #[.pointer (some ⟨x, 0, none⟩), .string n] w fun e w' =>
    e = .returned (.int .i64 (St.mend n s2).2) ∧ PairD W0 w' d x s1 (St.mend n s2).1 X ∧ Keep X w w' := Calls.px h fun _ hF => rmend_at hF n hn hlen
theorem d_replace (h : PairD W0 w d x s1 s2 X) (n s : ByteArray) (hn : (n.size : Int) ≤ 1000) : Calls Try.prog 43 #[.pointer (some ⟨d, 0, none⟩), .string n, .string s] w fun e w' =>
    e = .returned (.int .i64 (St.replace n s.data.toList s1).2) ∧ PairD W0 w' d x (St.replace n s.data.toList s1).1 s2 X ∧ Keep X w w' := Calls.pd h fun _ hF => replace_at hF n s hn
theorem x_replace (h : PairD W0 w d x s1 s2 X) (n s : ByteArray) (hn : (n.size : Int) ≤ 1000) (hlen : s2.files.length < 999999) : Calls Try.prog 55 #[.pointer (some ⟨x, 0, none⟩), .string n, .string s] w fun e w' =>
    e = .returned (.int .i64 (St.replace n s.data.toList s2).2) ∧ PairD W0 w' d x s1 (St.replace n s.data.toList s2).1 X ∧ Keep X w w' := Calls.px h fun _ hF => rreplace_at hF n s hn hlen
theorem d_append (h : PairD W0 w d x s1 s2 X) (n s : ByteArray) (hs : s.size ≤ 281474976710656) : Calls Try.prog 17 #[.pointer (some ⟨d, 0, none⟩), .string n, .string s] w fun e w' =>
    e = .returned (.int .i64 (St.append s1 n s.data.toList).2) ∧ PairD W0 w' d x (St.append s1 n s.data.toList).1 s2 X ∧ Keep X w w' := Calls.pd h fun _ hF => append_at hF n s hs rfl
theorem x_append (h : PairD W0 w d x s1 s2 X) (n s : ByteArray) (hs : s.size ≤ 281474976710656) (hlen : s2.files.length < 1000000) : Calls Try.prog 56 #[.pointer (some ⟨x, 0, none⟩), .string n, .string s] w fun e w' =>
    e = .returned (.int .i64 (St.append s2 n s.data.toList).2) ∧ PairD W0 w' d x s1 (St.append s2 n s.data.toList).1 X ∧ Keep X w w' := Calls.px h fun _ hF => rappend_at hF n s (by omega) hlen
theorem d_arm (h : PairD W0 w d x s1 s2 X) (a t : Int) (ha : a ≤ 9223372036854775807) : Calls Try.prog 37 #[.pointer (some ⟨d, 0, none⟩), .int .i64 a, .int .i64 t] w fun e w' =>
    e = .returned (.tuple #[]) ∧ PairD W0 w' d x { s1 with after := max a (-1), torn := t } s2 X ∧ Keep X w w' := Calls.pd h fun _ hF => arm_at hF a t ha
theorem x_arm (h : PairD W0 w d x s1 s2 X) (a t : Int) (ha : a ≤ 9223372036854775807) : Calls Try.prog 57 #[.pointer (some ⟨x, 0, none⟩), .int .i64 a, .int .i64 t] w fun e w' =>
    e = .returned (.tuple #[]) ∧ PairD W0 w' d x s1 { s2 with after := max a (-1), torn := t } X ∧ Keep X w w' := Calls.px h fun _ hF => rarm_at hF a t ha
/-- No more is synced than is there. -/
theorem At.synced {F : Nat → Prop} (h : At w d s1 F) : ∀ f ∈ s1.files, f.synced ≤ f.bytes.length := by
  obtain ⟨mb, gs, ck, hd, hp, _, _⟩ := h
  intro f hf
  obtain ⟨g, hg, rfl⟩ := List.mem_map.1 (hp.mem_iff.2 hf)
  exact (hd.ok g hg).sync
def lostSt (keep : Int) (st : St) : St := ⟨st.files.map (flost keep), st.room, -1, 0, false⟩
theorem d_lost (h : PairD W0 w d x s1 s2 X) (keep : Int) : Calls Try.prog 20 #[.pointer (some ⟨d, 0, none⟩), .int .i64 keep] w fun e w' => ∃ d2, e = .returned (.pointer (some ⟨d2, 0, none⟩)) ∧ PairD W0 w' d2 x (lostSt keep s1) s2 X ∧ Keep X w w' := by
  have h0 := h
  obtain ⟨F, K, h1, h2, h3, h4, h5, h6, h7⟩ := h
  refine (lost_at h1 keep).mono ?_
  rintro e w' ⟨d2, rfl, ⟨F2, k1, k2⟩, hb⟩
  refine ⟨d2, rfl, ⟨F2, K, k1, h2.below hb, fun k hk => Nat.le_trans h7.size (k2 k hk), h4, fun k hf hk => ?_, fun k hk => ⟨fun hf => ?_, (h6 k hk).2.1, Nat.lt_of_lt_of_le (h6 k hk).2.2 hb.size⟩, h7.trans (hb.mono h7.size)⟩, h0.keep hb⟩
  · have := h2.lt hk; have := k2 k hf; omega
  · have := (h6 k hk).2.2; have := k2 k hf; omega
theorem x_lost (h : PairD W0 w d x s1 s2 X) (keep : Int) (hsy : ∀ f ∈ s2.files, f.synced ≤ f.bytes.length) (hlen : s2.files.length < 1000000) : Calls Try.prog 58 #[.pointer (some ⟨x, 0, none⟩), .int .i64 keep] w fun e w' => ∃ x2, e = .returned (.pointer (some ⟨x2, 0, none⟩)) ∧ PairD W0 w' d x2 s1 (lostSt keep s2) X ∧ Keep X w w' := by
  have h0 := h
  obtain ⟨F, K, h1, h2, h3, h4, h5, h6, h7⟩ := h
  refine (rlost_at h2 keep hsy hlen).mono ?_
  rintro e w' ⟨x2, rfl, ⟨K2, k1, k2⟩, hb⟩
  refine ⟨x2, rfl, ⟨F, K2, h1.kept fun k hk => hb.block k (h1.lt hk), k1, h3, fun k hk => Nat.le_trans h7.size (k2 k hk), fun k hf hk => ?_, fun k hk => ⟨(h6 k hk).1, fun hf => ?_, Nat.lt_of_lt_of_le (h6 k hk).2.2 hb.size⟩, h7.trans (hb.mono h7.size)⟩, h0.keep hb⟩
  · have := h1.lt hf; have := k2 k hk; omega
  · have := (h6 k hk).2.2; have := k2 k hf; omega
theorem PairD.synced (h : PairD W0 w d x s1 s2 X) : ∀ f ∈ s1.files, f.synced ≤ f.bytes.length := by
  obtain ⟨F, K, h1, _⟩ := h
  exact h1.synced
theorem d_whole (h : PairD W0 w d x s1 s2 X) (n : ByteArray) : Calls Try.prog 27 #[.pointer (some ⟨d, 0, none⟩), .string n] w fun e w' => e = .returned (.tuple #[.string ⟨((wholeL (rdL s1 n)).getD []).toArray⟩, .bool (wholeL (rdL s1 n)).isSome]) ∧ Below w.heap.size w w' := by
  obtain ⟨F, K, h1, _⟩ := h
  exact whole_at h1 n
theorem x_whole (h : PairD W0 w d x s1 s2 X) (n : ByteArray) (hlen : s2.files.length < 1000000) : Calls Try.prog 29 #[.pointer (some ⟨x, 0, none⟩), .string n] w fun e w' => e = .returned (.tuple #[.string ⟨((wholeL (rdL s2 n)).getD []).toArray⟩, .bool (wholeL (rdL s2 n)).isSome]) ∧ Below w.heap.size w w' := by
  obtain ⟨F, K, h1, h2, _⟩ := h
  exact rwhole_at h2 n hlen
theorem d_all (h : PairD W0 w d x s1 s2 X) (n : ByteArray) : Calls Try.prog 31 #[.pointer (some ⟨d, 0, none⟩), .string n] w fun e w' => ∃ (gb : Option Nat) (cap : Nat) (ns : List ByteArray),
    e = .returned (.slice (gb.map fun b => ⟨b, 0, none⟩) ns.length cap) ∧ (SRowO w' gb cap ns ∧ ns.map (·.data.toList) = framesL (rdL s1 n)) ∧ Below w.heap.size w w' := by
  obtain ⟨F, K, h1, _⟩ := h
  refine (all_at h1 n).mono ?_
  rintro e w' ⟨gb, cap, ns, k1, k2, k3⟩
  exact ⟨gb, cap, ns, k1, ⟨k2.1, k2.2.1⟩, k3⟩
theorem x_all (h : PairD W0 w d x s1 s2 X) (n : ByteArray) (hlen : s2.files.length < 1000000) : Calls Try.prog 32 #[.pointer (some ⟨x, 0, none⟩), .string n] w fun e w' => ∃ (gb : Option Nat) (cap : Nat) (ns : List ByteArray),
    e = .returned (.slice (gb.map fun b => ⟨b, 0, none⟩) ns.length cap) ∧ (SRowO w' gb cap ns ∧ ns.map (·.data.toList) = framesL (rdL s2 n)) ∧ Below w.heap.size w w' := by
  obtain ⟨F, K, h1, h2, _⟩ := h
  exact rall_at h2 n hlen
/-- Both disks new. -/
theorem d_new (hb : Below W0.heap.size W0 w) (room : Int) (h0 : 0 ≤ room) (h1 : room ≤ 1048576) : Calls Try.prog 16 #[.int .i64 room] w fun e w' => ∃ d, e = .returned (.tuple #[.pointer (some ⟨d, 0, none⟩), .int .i64 0]) ∧ One W0 w' d ⟨[], room, -1, 0, false⟩ := new_one hb room h0 h1
theorem x_new {room : Int} (h : One W0 w d ⟨[], room, -1, 0, false⟩) (h0 : 0 ≤ room) (h1 : room ≤ 1048576) : Calls Try.prog 24 #[.int .i64 room] w fun e w' => ∃ x, e = .returned (.pointer (some ⟨x, 0, none⟩)) ∧ PairD W0 w' d x ⟨[], room, -1, 0, false⟩ ⟨[], room, -1, 0, false⟩ (fun _ => False) := by
  obtain ⟨F, k1, k2, k3⟩ := h
  refine (rnew_c w room h0 h1).mono ?_
  rintro e w' ⟨x, rfl, ⟨K, l1, l2⟩, hb⟩
  exact ⟨x, rfl, F, K, k1.kept fun k hk => hb.block k (k1.lt hk), l1, k2, fun k hk => Nat.le_trans k3.size (l2 k hk), fun k hf hk => (by have := k1.lt hf; have := l2 k hk; omega), fun k hk => hk.elim, k3.trans (hb.mono k3.size)⟩
end
end Go.Proofs.Ytmjeanbbhacnaaa
