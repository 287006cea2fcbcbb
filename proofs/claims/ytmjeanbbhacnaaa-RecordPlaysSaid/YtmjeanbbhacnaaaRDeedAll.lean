/- The reference of chapter 6: the contracts of all deeds; Lost, New. The bound: at most 10^6 files. -/
import Derived.Test.YtmjeanbbhacnaaaRAppAll
namespace Go.Proofs.Ytmjeanbbhacnaaa
open Go.RowKit
attribute [local go_sem ↓] Go.wp_at_zero Go.wp_at_succ
theorem St.Like.refl (st : St) : St.Like st st := ⟨List.Perm.refl _, rfl, rfl, rfl, rfl⟩
section
variable {w W : World} {x : Nat} {rb : Option Nat} {cap : Nat} {st : St}
set_option maxRecDepth 100000 in
theorem rapp_dead (h : RefD w x rb cap st) (n s : ByteArray) (hd : st.dead = true) : Calls Try.prog 56 #[.pointer (some ⟨x, 0, none⟩), .string n, .string s] w fun e w' => e = .returned (.int .i64 19) ∧ RLike w x (rfoot x rb) st w' := by
  have hc := rcrash_dead h hd
  have Hc := Lib.hid hc
  have H := Lib.hid h
  clear h hd hc
  go_enter Try.func56, Try.ntmps56
  go_wp2_with fail
  refine Hc.out.mono ?_
  rintro e w1 ⟨rfl, rfl⟩
  go_wp2_with fail
  go_ret
  exact ⟨rfl, st, .refl _, H.out.turn (Below.refl _ _)⟩
set_option maxRecDepth 100000 in
theorem rapp_full_crash (h : RefD w x rb cap st) (n s : ByteArray) (hd : st.dead = false) (ha : st.after = 0) (hs : (s.size : Int) ≤ 281474976710656) (hfit : ¬ (ftotal st.files : Int) + s.size ≤ st.room) (hlen : st.files.length < 1000000) :
    Calls Try.prog 56 #[.pointer (some ⟨x, 0, none⟩), .string n, .string s] w fun e w' => e = .returned (.int .i64 19) ∧ RLike w x (rfoot x rb) { st with dead := true } w' := by
  have hc := rcrash_now h hd ha
  have Hc := Lib.hid hc
  obtain ⟨t, ht⟩ : ∃ t, t = ftotal st.files := ⟨_, rfl⟩
  obtain ⟨r, hr⟩ : ∃ r, r = st.room := ⟨_, rfl⟩
  have htb : (t : Int) ≤ 1099511627776 := by have := h.small.total; omega
  have ht0 : (0 : Int) ≤ (t : Int) := by omega
  rw [← ht, ← hr] at hfit
  have hfit2 : r < (t : Int) + (s.size : Int) := by omega
  have H := Lib.hid (And.intro ht (And.intro hr hlen))
  clear h hd ha hc ht hr hlen hfit
  go_enter Try.func56, Try.ntmps56
  go_wp2_with fail
  refine Hc.out.mono ?_
  rintro e w1 ⟨rfl, h1, hE1⟩
  have hu : ∀ q, Calls Try.prog 78 #[.pointer (some ⟨x, 0, none⟩)] (w1.drewN q) fun e w' => e = .returned (.int .i64 (t : Nat)) ∧ w' = w1.drewN q := by rw [H.out.1]; exact fun q => used_quiet h1 H.out.2.2 q
  have c1 := h1.cell.2.1
  rw [show ({ st with dead := true } : St).room = r from H.out.2.1.symm] at c1
  have Hu := Lib.hid hu
  have H1 := Lib.hid (And.intro h1 hE1)
  clear hu h1 hE1
  go_upto_region 4 with fail
  go_quiet ((go_at_call 78; exact Calls.quiet_of_same (Hu.out _)))
  rename_i nq
  have hbx : Below w1.heap.size w1 (w1.drewN nq) := ⟨rfl, rfl, rfl, Nat.le_refl _, fun _ _ => rfl⟩
  have HB := Lib.hid hbx
  clear hbx
  go_wp2_with fail
  go_ret
  exact ⟨rfl, _, .refl _, _, ⟨_, _, H1.out.1.below HB.out, rfl⟩, H1.out.2.trans (Eff.below HB.out)⟩
set_option maxRecDepth 100000 in
theorem rapp_full_ok (h : RefD w x rb cap st) (n s : ByteArray) (hd : st.dead = false) (ha : st.after ≠ 0) (hs : (s.size : Int) ≤ 281474976710656) (hfit : ¬ (ftotal st.files : Int) + s.size ≤ st.room) (hlen : st.files.length < 1000000) :
    Calls Try.prog 56 #[.pointer (some ⟨x, 0, none⟩), .string n, .string s] w fun e w' => e = .returned (.int .i64 5) ∧ RLike w x (rfoot x rb) (stepSt st) w' := by
  have hc := rcrash_go h hd ha
  have Hc := Lib.hid hc
  obtain ⟨t, ht⟩ : ∃ t, t = ftotal st.files := ⟨_, rfl⟩
  obtain ⟨r, hr⟩ : ∃ r, r = st.room := ⟨_, rfl⟩
  have htb : (t : Int) ≤ 1099511627776 := by have := h.small.total; omega
  have ht0 : (0 : Int) ≤ (t : Int) := by omega
  rw [← ht, ← hr] at hfit
  have hfit2 : r < (t : Int) + (s.size : Int) := by omega
  have H := Lib.hid (And.intro ht (And.intro hr hlen))
  clear h hd ha hc ht hr hlen hfit
  go_enter Try.func56, Try.ntmps56
  go_wp2_with fail
  refine Hc.out.mono ?_
  rintro e w1 ⟨rfl, h1, hE1⟩
  have hu : ∀ q, Calls Try.prog 78 #[.pointer (some ⟨x, 0, none⟩)] (w1.drewN q) fun e w' => e = .returned (.int .i64 (t : Nat)) ∧ w' = w1.drewN q := by rw [H.out.1]; exact fun q => used_quiet h1 H.out.2.2 q
  have c1 := h1.cell.2.1
  rw [show (stepSt st).room = r from H.out.2.1.symm] at c1
  have Hu := Lib.hid hu
  have H1 := Lib.hid (And.intro h1 hE1)
  clear hu h1 hE1
  go_upto_region 4 with fail
  go_quiet ((go_at_call 78; exact Calls.quiet_of_same (Hu.out _)))
  rename_i nq
  have hbx : Below w1.heap.size w1 (w1.drewN nq) := ⟨rfl, rfl, rfl, Nat.le_refl _, fun _ _ => rfl⟩
  have HB := Lib.hid hbx
  clear hbx
  go_wp2_with fail
  go_ret
  exact ⟨rfl, _, .refl _, _, ⟨_, _, H1.out.1.below HB.out, rfl⟩, H1.out.2.trans (Eff.below HB.out)⟩
set_option maxRecDepth 100000 in
theorem rsync_dead (h : RefD w x rb cap st) (n : ByteArray) (hd : st.dead = true) : Calls Try.prog 81 #[.pointer (some ⟨x, 0, none⟩), .string n] w fun e w' => e = .returned (.int .i64 19) ∧ RLike w x (rfoot x rb) st w' := by
  have hc := rcrash_dead h hd
  have Hc := Lib.hid hc
  have H := Lib.hid h
  clear h hd hc
  go_enter Try.func81, Try.ntmps81
  go_wp2_with fail
  refine Hc.out.mono ?_
  rintro e w1 ⟨rfl, rfl⟩
  go_wp2_with fail
  go_ret
  exact ⟨rfl, st, .refl _, H.out.turn (Below.refl _ _)⟩
set_option maxRecDepth 100000 in
theorem rsync_crash (h : RefD w x rb cap st) (n : ByteArray) (hd : st.dead = false) (ha : st.after = 0) : Calls Try.prog 81 #[.pointer (some ⟨x, 0, none⟩), .string n] w fun e w' => e = .returned (.int .i64 19) ∧ RLike w x (rfoot x rb) { st with dead := true } w' := by
  have hc := rcrash_now h hd ha
  have Hc := Lib.hid hc
  clear h hd ha hc
  go_enter Try.func81, Try.ntmps81
  go_wp2_with fail
  refine Hc.out.mono ?_
  rintro e w1 ⟨rfl, h1, hE⟩
  have H1 := Lib.hid (And.intro h1 hE)
  clear h1 hE
  go_wp2_with fail
  go_ret
  exact ⟨rfl, _, .refl _, _, ⟨_, _, H1.out.1, rfl⟩, H1.out.2⟩
set_option maxRecDepth 100000 in
theorem rsync_none (h : RefD w x rb cap st) (n : ByteArray) (hd : st.dead = false) (ha : st.after ≠ 0) (hg : fget st.files n = none) (hlen : st.files.length < 1000000) : Calls Try.prog 81 #[.pointer (some ⟨x, 0, none⟩), .string n] w fun e w' => e = .returned (.int .i64 6) ∧ RLike w x (rfoot x rb) (stepSt st) w' := by
  obtain ⟨k, hp⟩ := place_ex st.files n
  have hc := rcrash_go h hd ha
  have Hc := Lib.hid hc
  have H := Lib.hid (And.intro hp (And.intro hg hlen))
  clear h hd ha hc hp hg hlen
  go_enter Try.func81, Try.ntmps81
  go_wp2_with fail
  refine Hc.out.mono ?_
  rintro e w1 ⟨rfl, h1, hE⟩
  have hfind := rfind_c h1 n k H.out.1 H.out.2.2
  rw [show fget (stepSt st).files n = none from H.out.2.1] at hfind
  have Hf : Hid (Calls Try.prog 79 #[.pointer (some ⟨x, 0, none⟩), .string n] w1 fun e w' => e = .returned (.tuple #[.int .i64 (k : Int), .bool false]) ∧ Below w1.heap.size w1 w') := Lib.hid hfind
  have H1 := Lib.hid (And.intro h1 hE)
  clear h1 hE hfind
  go_wp2_with fail
  refine Hf.out.mono ?_
  rintro e w2 ⟨rfl, hb2⟩
  have Hb := Lib.hid hb2
  clear hb2
  go_wp2_with fail
  go_ret
  exact ⟨rfl, _, .refl _, _, ⟨_, _, H1.out.1.below Hb.out, rfl⟩, H1.out.2.trans (Eff.below Hb.out)⟩
set_option maxRecDepth 100000 in
theorem rdel_dead (h : RefD w x rb cap st) (n : ByteArray) (hd : st.dead = true) : Calls Try.prog 101 #[.pointer (some ⟨x, 0, none⟩), .string n] w fun e w' => e = .returned (.int .i64 19) ∧ RLike w x (rfoot x rb) st w' := by
  have hc := rcrash_dead h hd
  have Hc := Lib.hid hc
  have H := Lib.hid h
  clear h hd hc
  go_enter Try.func101, Try.ntmps101
  go_wp2_with fail
  refine Hc.out.mono ?_
  rintro e w1 ⟨rfl, rfl⟩
  go_wp2_with fail
  go_ret
  exact ⟨rfl, st, .refl _, H.out.turn (Below.refl _ _)⟩
set_option maxRecDepth 100000 in
theorem rdel_crash (h : RefD w x rb cap st) (n : ByteArray) (hd : st.dead = false) (ha : st.after = 0) : Calls Try.prog 101 #[.pointer (some ⟨x, 0, none⟩), .string n] w fun e w' => e = .returned (.int .i64 19) ∧ RLike w x (rfoot x rb) { st with dead := true } w' := by
  have hc := rcrash_now h hd ha
  have Hc := Lib.hid hc
  clear h hd ha hc
  go_enter Try.func101, Try.ntmps101
  go_wp2_with fail
  refine Hc.out.mono ?_
  rintro e w1 ⟨rfl, h1, hE⟩
  have H1 := Lib.hid (And.intro h1 hE)
  clear h1 hE
  go_wp2_with fail
  go_ret
  exact ⟨rfl, _, .refl _, _, ⟨_, _, H1.out.1, rfl⟩, H1.out.2⟩
set_option maxRecDepth 100000 in
theorem rdel_none (h : RefD w x rb cap st) (n : ByteArray) (hd : st.dead = false) (ha : st.after ≠ 0) (hg : fget st.files n = none) (hlen : st.files.length < 1000000) : Calls Try.prog 101 #[.pointer (some ⟨x, 0, none⟩), .string n] w fun e w' => e = .returned (.int .i64 6) ∧ RLike w x (rfoot x rb) (stepSt st) w' := by
  obtain ⟨k, hp⟩ := place_ex st.files n
  have hc := rcrash_go h hd ha
  have Hc := Lib.hid hc
  have H := Lib.hid (And.intro hp (And.intro hg hlen))
  clear h hd ha hc hp hg hlen
  go_enter Try.func101, Try.ntmps101
  go_wp2_with fail
  refine Hc.out.mono ?_
  rintro e w1 ⟨rfl, h1, hE⟩
  have hfind := rfind_c h1 n k H.out.1 H.out.2.2
  rw [show fget (stepSt st).files n = none from H.out.2.1] at hfind
  have Hf : Hid (Calls Try.prog 79 #[.pointer (some ⟨x, 0, none⟩), .string n] w1 fun e w' => e = .returned (.tuple #[.int .i64 (k : Int), .bool false]) ∧ Below w1.heap.size w1 w') := Lib.hid hfind
  have H1 := Lib.hid (And.intro h1 hE)
  clear h1 hE hfind
  go_wp2_with fail
  refine Hf.out.mono ?_
  rintro e w2 ⟨rfl, hb2⟩
  have Hb := Lib.hid hb2
  clear hb2
  go_wp2_with fail
  go_ret
  exact ⟨rfl, _, .refl _, _, ⟨_, _, H1.out.1.below Hb.out, rfl⟩, H1.out.2.trans (Eff.below Hb.out)⟩
set_option maxRecDepth 100000 in
theorem rren_dead (h : RefD w x rb cap st) (n to2 : ByteArray) (hd : st.dead = true) : Calls Try.prog 102 #[.pointer (some ⟨x, 0, none⟩), .string n, .string to2] w fun e w' => e = .returned (.int .i64 19) ∧ RLike w x (rfoot x rb) st w' := by
  have hc := rcrash_dead h hd
  have Hc := Lib.hid hc
  have H := Lib.hid h
  clear h hd hc
  go_enter Try.func102, Try.ntmps102
  go_wp2_with fail
  refine Hc.out.mono ?_
  rintro e w1 ⟨rfl, rfl⟩
  go_wp2_with fail
  go_ret
  exact ⟨rfl, st, .refl _, H.out.turn (Below.refl _ _)⟩
set_option maxRecDepth 100000 in
theorem rren_crash (h : RefD w x rb cap st) (n to2 : ByteArray) (hd : st.dead = false) (ha : st.after = 0) : Calls Try.prog 102 #[.pointer (some ⟨x, 0, none⟩), .string n, .string to2] w fun e w' => e = .returned (.int .i64 19) ∧ RLike w x (rfoot x rb) { st with dead := true } w' := by
  have hc := rcrash_now h hd ha
  have Hc := Lib.hid hc
  clear h hd ha hc
  go_enter Try.func102, Try.ntmps102
  go_wp2_with fail
  refine Hc.out.mono ?_
  rintro e w1 ⟨rfl, h1, hE⟩
  have H1 := Lib.hid (And.intro h1 hE)
  clear h1 hE
  go_wp2_with fail
  go_ret
  exact ⟨rfl, _, .refl _, _, ⟨_, _, H1.out.1, rfl⟩, H1.out.2⟩
set_option maxRecDepth 100000 in
theorem rren_none (h : RefD w x rb cap st) (n to2 : ByteArray) (hd : st.dead = false) (ha : st.after ≠ 0) (hg : fget st.files n = none) (hlen : st.files.length < 1000000) : Calls Try.prog 102 #[.pointer (some ⟨x, 0, none⟩), .string n, .string to2] w fun e w' => e = .returned (.int .i64 6) ∧ RLike w x (rfoot x rb) (stepSt st) w' := by
  obtain ⟨k, hp⟩ := place_ex st.files n
  have hc := rcrash_go h hd ha
  have Hc := Lib.hid hc
  have H := Lib.hid (And.intro hp (And.intro hg hlen))
  clear h hd ha hc hp hg hlen
  go_enter Try.func102, Try.ntmps102
  go_wp2_with fail
  refine Hc.out.mono ?_
  rintro e w1 ⟨rfl, h1, hE⟩
  have hfind := rfind_c h1 n k H.out.1 H.out.2.2
  rw [show fget (stepSt st).files n = none from H.out.2.1] at hfind
  have Hf : Hid (Calls Try.prog 79 #[.pointer (some ⟨x, 0, none⟩), .string n] w1 fun e w' => e = .returned (.tuple #[.int .i64 (k : Int), .bool false]) ∧ Below w1.heap.size w1 w') := Lib.hid hfind
  have H1 := Lib.hid (And.intro h1 hE)
  clear h1 hE hfind
  go_wp2_with fail
  refine Hf.out.mono ?_
  rintro e w2 ⟨rfl, hb2⟩
  have Hb := Lib.hid hb2
  clear hb2
  go_wp2_with fail
  go_ret
  exact ⟨rfl, _, .refl _, _, ⟨_, _, H1.out.1.below Hb.out, rfl⟩, H1.out.2.trans (Eff.below Hb.out)⟩
end
end Go.Proofs.Ytmjeanbbhacnaaa
namespace Go.Proofs.Ytmjeanbbhacnaaa
open Go.RowKit
attribute [local go_sem ↓] Go.wp_at_zero Go.wp_at_succ
theorem fCells_sync_get (L : List Fi) (k : Nat) (hk : k < L.length) (y : Nat) (i : Nat) (hi : i < L.length * 3) : (fCells (L.set k { L[k] with synced := y }))[i]? = if i = k * 3 + 2 then some (.int .i64 (y : Int)) else (fCells L)[i]? := by
  rw [fCells_set_get _ _ _ _ hi]
  by_cases e : i = k * 3 + 2
  · subst e
    rw [if_pos (by omega), if_pos rfl, show k * 3 + 2 - k * 3 = 2 by omega]
    rfl
  · rw [if_neg e]
    by_cases e2 : k * 3 ≤ i ∧ i < k * 3 + 3
    · rw [if_pos e2]
      have h2 := flat_get fiCells 3 L (fun _ _ => rfl) k hk (i - k * 3) (by omega)
      rw [show k * 3 + (i - k * 3) = i by omega] at h2
      unfold fCells
      rw [h2]
      have : i - k * 3 = 0 ∨ i - k * 3 = 1 := by omega
      rcases this with e3 | e3 <;> rw [e3] <;> rfl
    · rw [if_neg e2]
section
variable {w W : World} {x : Nat} {rb : Option Nat} {cap : Nat} {st : St}
theorem RefD.storeSync {b : Nat} (h : RefD w x (some b) cap st) (k : Nat) (hk : k < st.files.length) (y : Nat) (hs : Srt (st.files.set k { st.files[k] with synced := y })) (hsm : St.Small { st with files := st.files.set k { st.files[k] with synced := y } }) :
    RDT w x (rfoot x (some b)) { st with files := st.files.set k { st.files[k] with synced := y } } (w.setCell ⟨b, k * 3 + 2, none⟩ (.int .i64 (y : Int))) := by
  have hbx := h.rb_ne rfl
  have hl : (st.files.set k { st.files[k] with synced := y }).length = st.files.length := List.length_set
  obtain ⟨q1, q2, row, q3, q4, q5⟩ := h.row
  refine ⟨rfoot x (some b), ⟨some b, cap, ⟨?_, ?_, hs, hsm⟩, rfl⟩, rfl, rfl, rfl, by simp, fun k hk hn => setCell_other _ fun e => hn (.inr (by rw [e])), fun k hk => .inl hk⟩
  · show (w.setCell ⟨b, k * 3 + 2, none⟩ (.int .i64 (y : Int))).heap[x]? = _
    rw [setCell_other _ hbx.symm, h.disk, hl]
  · show VRow _ 3 _ (some b) cap (st.files.set k _).length (fCells (st.files.set k _))
    rw [hl]
    refine ⟨by rw [fCells_length, hl], q2, _, setCell_block _ q3, by rw [Array.size_setIfInBounds, q4], fun i hi => ?_⟩
    rw [fCells_length, hl] at hi
    have hcap : st.files.length * 3 ≤ cap * 3 := Nat.mul_le_mul_right _ q2
    rw [fCells_sync_get _ _ hk _ _ hi, Array.getElem?_setIfInBounds]
    by_cases e : k * 3 + 2 = i
    · rw [if_pos e, if_pos (by rw [q4]; omega), if_pos e.symm]
    · rw [if_neg e, if_neg (fun e2 => e e2.symm)]
      exact q5 i (by rw [fCells_length]; exact hi)
set_option maxRecDepth 100000 in
set_option maxHeartbeats 1600000 in
theorem rsync_some (h : RefD w x rb cap st) (n : ByteArray) (hd : st.dead = false) (ha : st.after ≠ 0) {g : Fi} (hg : fget st.files n = some g) (hlen : st.files.length < 1000000) :
    Calls Try.prog 81 #[.pointer (some ⟨x, 0, none⟩), .string n] w fun e w' => e = .returned (.int .i64 0) ∧ RLike w x (rfoot x rb) { stepSt st with files := fsync n st.files } w' := by
  obtain ⟨k, hp⟩ := place_ex st.files n
  obtain ⟨hk, hgk, hgn⟩ := hp.yes h.srt hg
  obtain ⟨hs1, hs2⟩ := hp.put_old h.srt hg (f := { g with synced := g.bytes.length }) hgn
  have hc := rcrash_go h hd ha
  have Hc := Lib.hid hc
  obtain ⟨m, hm⟩ : ∃ m, m = st.files.length := ⟨_, rfl⟩
  have hkm : (k : Int) < (m : Int) := by omega
  have hk0 : (0 : Int) ≤ (k : Int) := by omega
  have hmI : (m : Int) ≤ 1000000 := by omega
  have hgb : (g.bytes.length : Int) ≤ 1099511627776 := by
    have h1 := ftotal_take hk
    have h2 := ftotal_take_le st.files (k + 1)
    have h3 := h.small.total
    rw [hgk] at h1
    omega
  have H := Lib.hid (And.intro h (And.intro hp (And.intro hgk (And.intro hg (And.intro hlen (And.intro hs1 (And.intro hs2 hm)))))))
  clear h hp hgk hg hlen hs1 hs2 hm hc hd ha hgn
  go_enter Try.func81, Try.ntmps81
  go_wp2_with fail
  refine Hc.out.mono ?_
  rintro e w1 ⟨rfl, h1, hE⟩
  have hfind := rfind_c h1 n k H.out.2.1 H.out.2.2.2.2.1
  rw [show fget (stepSt st).files n = some g from H.out.2.2.2.1] at hfind
  have Hf : Hid (Calls Try.prog 79 #[.pointer (some ⟨x, 0, none⟩), .string n] w1 fun e w' => e = .returned (.tuple #[.int .i64 (k : Int), .bool true]) ∧ Below w1.heap.size w1 w') := Lib.hid hfind
  have H1 := Lib.hid (And.intro h1 hE)
  clear h1 hE hfind
  go_wp2_with fail
  refine Hf.out.mono ?_
  rintro e w2 ⟨rfl, hb2⟩
  have h2 := H1.out.1.below hb2
  have d0 := h2.cell.1
  rw [show (stepSt st).files.length = m from H.out.2.2.2.2.2.2.2.symm] at d0
  obtain ⟨b, rfl, hbl, q0', q1', q2', qf⟩ := h2.file k hk
  have hgk2 := H.out.2.2.1
  obtain ⟨S0, hS0⟩ : ∃ S0, S0 = txt g.bytes := ⟨_, rfl⟩
  have q1 : w2.cell? ⟨b, k * 3 + 1, none⟩ = some (.string S0) := by rw [hS0, ← hgk2]; exact q1'
  have q2 : w2.cell? ⟨b, k * 3 + 2, none⟩ = some (.int .i64 (g.synced : Int)) := by rw [← hgk2]; exact q2'
  have f2 := qf (k * 3 + 2)
  have hsz : S0.size = g.bytes.length := by rw [hS0, txt_size]
  have hfsync : fsync n st.files = st.files.set k { st.files[k] with synced := g.bytes.length } := by
    rw [fsync_some H.out.2.2.2.1, H.out.2.2.2.2.2.2.1, hgk2]
  have hfin : RDT w2 x (rfoot x (some b)) { stepSt st with files := fsync n st.files } (w2.setCell ⟨b, k * 3 + 2, none⟩ (.int .i64 (S0.size : Int))) := by
    rw [hsz, hfsync]
    refine h2.storeSync k hk g.bytes.length (by rw [show (stepSt st).files[k]'hk = g from hgk2]; exact H.out.2.2.2.2.2.1) ?_
    have hh := h2.small
    refine ⟨?_, hh.room, hh.after⟩
    show ftotal (st.files.set k { st.files[k] with synced := g.bytes.length }) ≤ _
    rw [← hfsync, ftotal_sync H.out.1.srt.named]
    exact hh.total
  have hsb : (S0.size : Int) ≤ 1099511627776 := by omega
  have HF := Lib.hid (And.intro hfin hb2)
  clear h2 hb2 hbl q0' q1' q2' qf hgk2 hS0 hsz hfsync hfin
  go_upto_region 6 with fail
  go_region_law (fail)
  all_goals go_wp2_with fail
  all_goals go_ret
  all_goals refine ⟨rfl, _, .refl _, ?_⟩
  all_goals obtain ⟨F', ⟨rb', cap', h3, h4⟩, h5⟩ := HF.out.1
  all_goals exact ⟨F', ⟨rb', cap', h3.kept fun _ _ => rfl, h4⟩, H1.out.2.trans ((Eff.below HF.out.2).trans ⟨h5.os, h5.tape, h5.output, h5.size, h5.keep, h5.sub⟩)⟩
set_option maxRecDepth 100000 in
set_option maxHeartbeats 1600000 in
theorem rdel_some (h : RefD w x rb cap st) (n : ByteArray) (hd : st.dead = false) (ha : st.after ≠ 0) {g : Fi} (hg : fget st.files n = some g) (hlen : st.files.length < 1000000) :
    Calls Try.prog 101 #[.pointer (some ⟨x, 0, none⟩), .string n] w fun e w' => e = .returned (.int .i64 0) ∧ RLike w x (rfoot x rb) { stepSt st with files := fdel st.files n } w' := by
  obtain ⟨k, hp⟩ := place_ex st.files n
  obtain ⟨hk, hgk, hgn⟩ := hp.yes h.srt hg
  obtain ⟨hs1, hs2⟩ := hp.drop h.srt hg
  have hc := rcrash_go h hd ha
  have Hc := Lib.hid hc
  have H := Lib.hid (And.intro h (And.intro hp (And.intro hg (And.intro hlen (And.intro hs1 hs2)))))
  clear h hp hgk hg hlen hs1 hs2 hc hd ha hgn
  go_enter Try.func101, Try.ntmps101
  go_wp2_with fail
  refine Hc.out.mono ?_
  rintro e w1 ⟨rfl, h1, hE⟩
  have hfind := rfind_c h1 n k H.out.2.1 H.out.2.2.2.1
  rw [show fget (stepSt st).files n = some g from H.out.2.2.1] at hfind
  have Hf : Hid (Calls Try.prog 79 #[.pointer (some ⟨x, 0, none⟩), .string n] w1 fun e w' => e = .returned (.tuple #[.int .i64 (k : Int), .bool true]) ∧ Below w1.heap.size w1 w') := Lib.hid hfind
  have H1 := Lib.hid (And.intro h1 hE)
  clear h1 hE hfind
  go_wp2_with fail
  refine Hf.out.mono ?_
  rintro e w2 ⟨rfl, hb2⟩
  have h2 := H1.out.1.below hb2
  have hdr := rdrop_c h2 k hk H.out.2.2.2.2.1 (by
    have hh := h2.small
    refine ⟨?_, hh.room, hh.after⟩
    show ftotal (st.files.take k ++ st.files.drop (k + 1)) ≤ _
    rw [← ftotal_perm H.out.2.2.2.2.2]
    exact Nat.le_trans (ftotal_del _ _) hh.total) H.out.2.2.2.1
  have Hd := Lib.hid (And.intro hdr hb2)
  clear h2 hb2 hdr
  go_wp2_with fail
  refine Hd.out.1.mono ?_
  rintro e w3 ⟨rfl, F', hF', hE3⟩
  have H3 := Lib.hid (And.intro hF' hE3)
  clear hF' hE3
  go_wp2_with fail
  go_ret
  exact ⟨rfl, { stepSt st with files := st.files.take k ++ st.files.drop (k + 1) }, ⟨H.out.2.2.2.2.2, rfl, rfl, rfl, rfl⟩, F', H3.out.1, H1.out.2.trans ((Eff.below Hd.out.2).trans H3.out.2)⟩
set_option maxRecDepth 100000 in
set_option maxHeartbeats 1600000 in
theorem rren_some (h : RefD w x rb cap st) (n to2 : ByteArray) (hd : st.dead = false) (ha : st.after ≠ 0) {g : Fi} (hg : fget st.files n = some g) (hlen : st.files.length < 1000000) :
    Calls Try.prog 102 #[.pointer (some ⟨x, 0, none⟩), .string n, .string to2] w fun e w' => e = .returned (.int .i64 0) ∧ RLike w x (rfoot x rb) { stepSt st with files := frename n to2 st.files } w' := by
  obtain ⟨k, hp⟩ := place_ex st.files n
  obtain ⟨hk, hgk, hgn⟩ := hp.yes h.srt hg
  obtain ⟨hs1, hs2⟩ := hp.drop h.srt hg
  obtain ⟨L1, hL1⟩ : ∃ L1, L1 = st.files.take k ++ st.files.drop (k + 1) := ⟨_, rfl⟩
  have hl1 : L1.length < 1000000 := by rw [hL1, List.length_append, List.length_take, List.length_drop]; omega
  obtain ⟨L2, hsL, hperm, hput⟩ := rput_any L1 (by rw [hL1]; exact hs1) { g with name := to2 } hl1
  have hc := rcrash_go h hd ha
  have Hc := Lib.hid hc
  obtain ⟨m, hm⟩ : ∃ m, m = st.files.length := ⟨_, rfl⟩
  have hkm : (k : Int) < (m : Int) := by omega
  have hk0 : (0 : Int) ≤ (k : Int) := by omega
  have hmI : (m : Int) ≤ 1000000 := by omega
  have H := Lib.hid (And.intro h (And.intro hp (And.intro hgk (And.intro hg (And.intro hlen (And.intro hs1 (And.intro hs2 (And.intro hm (And.intro hL1 (And.intro hsL (And.intro hperm hput)))))))))))
  clear h hp hgk hg hlen hs1 hs2 hm hc hd ha hgn hL1 hl1 hsL hperm hput
  go_enter Try.func102, Try.ntmps102
  go_wp2_with fail
  refine Hc.out.mono ?_
  rintro e w1 ⟨rfl, h1, hE⟩
  have hfind := rfind_c h1 n k H.out.2.1 H.out.2.2.2.2.1
  rw [show fget (stepSt st).files n = some g from H.out.2.2.2.1] at hfind
  have Hf : Hid (Calls Try.prog 79 #[.pointer (some ⟨x, 0, none⟩), .string n] w1 fun e w' => e = .returned (.tuple #[.int .i64 (k : Int), .bool true]) ∧ Below w1.heap.size w1 w') := Lib.hid hfind
  have H1 := Lib.hid (And.intro h1 hE)
  clear h1 hE hfind
  go_wp2_with fail
  refine Hf.out.mono ?_
  rintro e w2 ⟨rfl, hb2⟩
  have h2 := H1.out.1.below hb2
  have d0 := h2.cell.1
  rw [show (stepSt st).files.length = m from H.out.2.2.2.2.2.2.2.1.symm] at d0
  obtain ⟨b, rfl, hbl, q0', q1', q2', qf⟩ := h2.file k hk
  have hgk2 := H.out.2.2.1
  obtain ⟨S0, hS0⟩ : ∃ S0, S0 = txt g.bytes := ⟨_, rfl⟩
  have q0 : w2.cell? ⟨b, k * 3, none⟩ = some (.string g.name) := by rw [← hgk2]; exact q0'
  have q1 : w2.cell? ⟨b, k * 3 + 1, none⟩ = some (.string S0) := by rw [hS0, ← hgk2]; exact q1'
  have q2 : w2.cell? ⟨b, k * 3 + 2, none⟩ = some (.int .i64 (g.synced : Int)) := by rw [← hgk2]; exact q2'
  obtain ⟨V, hV⟩ : ∃ V, V = w2.alloc (.cells #[.string g.name, .string S0, .int .i64 (g.synced : Int)] 91 (0, 0)) := ⟨_, rfl⟩
  have hbV : Below w2.heap.size w2 V := by rw [hV]; exact (Below.refl _ _).alloc (Nat.le_refl _) _
  have hsV : V.heap.size = w2.heap.size + 1 := by rw [hV]; exact World.size_alloc _ _
  have oV : V.heap[w2.heap.size]? = some (.cells #[.string g.name, .string S0, .int .i64 (g.synced : Int)] 91 (0, 0)) := by rw [hV]; exact heap_alloc_new _ _
  have hvd := h2.below hbV
  have hdr := rdrop_c hvd k hk H.out.2.2.2.2.2.1 (by
    have hh := h2.small
    refine ⟨?_, hh.room, hh.after⟩
    show ftotal (st.files.take k ++ st.files.drop (k + 1)) ≤ _
    rw [← ftotal_perm H.out.2.2.2.2.2.2.1]
    exact Nat.le_trans (ftotal_del _ _) hh.total) H.out.2.2.2.2.1
  obtain ⟨P, hP⟩ : ∃ P, P = w2.heap.size := ⟨_, rfl⟩
  rw [← hP] at oV hsV
  have hPF : ¬ rfoot x (some b) P := fun hf => by have := h2.lt hf; omega
  have Hd := Lib.hid (And.intro hdr (And.intro hb2 (And.intro hbV (And.intro hPF (And.intro oV (And.intro hP (And.intro hS0 hsV)))))))
  have HV := Lib.hid hV
  clear h2 hb2 hbl q0' q1' q2' qf hgk2 hS0 hbV oV hvd hdr hP hPF hV hsV
  go_upto_region 7 with fail
  rw [← HV.out, ← Hd.out.2.2.2.2.2.1]
  clear q0 q1 q2 d0
  go_wp2_with fail
  refine Hd.out.1.mono ?_
  rintro e w3 ⟨rfl, F', hF', hE3⟩
  obtain ⟨hdr, hb2, hbV, hPF, oV, hP, hS0, hsV⟩ := Hd.out
  have o3 := (hE3.keep P (by omega) hPF).trans oV
  have z0 : w3.cell? ⟨P, 0, none⟩ = some (.string g.name) := by rw [cell_of_row _ _ _ _ _ _ o3]; rfl
  have z0f := frozen_of_row w3 P 0 _ _ o3
  obtain ⟨V4, hV4⟩ : ∃ V4, V4 = w3.setCell ⟨P, 0, none⟩ (.string to2) := ⟨_, rfl⟩
  have o4 : V4.heap[P]? = some (.cells #[.string to2, .string S0, .int .i64 (g.synced : Int)] 91 (0, 0)) := by rw [hV4, setCell_block _ o3]; rfl
  have y0 : V4.cell? ⟨P, 0, none⟩ = some (.string to2) := by rw [cell_of_row _ _ _ _ _ _ o4]; rfl
  have y1 : V4.cell? ⟨P, 1, none⟩ = some (.string S0) := by rw [cell_of_row _ _ _ _ _ _ o4]; rfl
  have y2 : V4.cell? ⟨P, 2, none⟩ = some (.int .i64 (g.synced : Int)) := by rw [cell_of_row _ _ _ _ _ _ o4]; rfl
  obtain ⟨rb', cap', hR3, hF3⟩ := hF'
  have hPF' : ¬ F' P := fun hf => by
    rcases hE3.sub P hf with r | r
    · exact hPF r
    · omega
  have hR4 : RefD V4 x rb' cap' { stepSt st with files := st.files.take k ++ st.files.drop (k + 1) } := hR3.kept fun k hk => by rw [hV4]; exact setCell_other _ fun e => hPF' (by rw [hF3, ← e]; exact hk)
  have hsm2 : St.Small { stepSt st with files := L2 } := by
    have hh := hR4.small
    refine ⟨?_, hh.room, hh.after⟩
    obtain ⟨h, hp, hgk, hg, hlen, hs1, hs2, hm, hL1, hsL, hperm, hput⟩ := H.out
    have p1 : (frename n to2 st.files).Perm L2 := by
      rw [frename_some hg]
      exact (fput_perm (h.srt.named.fdel n) hs2 _).trans (by rw [← hL1]; exact hperm)
    show ftotal L2 ≤ _
    rw [← ftotal_perm p1]
    exact Nat.le_trans (ftotal_rename h.srt.named _ _) h.small.total
  have hput2 := H.out.2.2.2.2.2.2.2.2.2.2.2 V4 x rb' cap' { stepSt st with files := st.files.take k ++ st.files.drop (k + 1) } hR4 H.out.2.2.2.2.2.2.2.2.1.symm hsm2
  rw [show txt ({ g with name := to2 } : Fi).bytes = S0 from hS0.symm] at hput2
  have hE4 : Eff (rfoot x (some b)) w2 (rfoot x rb') V4 := by
    have hEE := (Eff.below hbV).trans hE3
    refine ⟨by rw [hV4]; exact hEE.os, by rw [hV4]; exact hEE.tape, by rw [hV4]; exact hEE.output, by rw [hV4]; simpa using hEE.size, fun k hk hn => ?_, fun k hk => ?_⟩
    · rw [hV4, setCell_other _ (by omega)]
      exact hEE.keep k hk hn
    · rw [show V4.heap.size = w3.heap.size by rw [hV4]; simp]
      exact hEE.sub k (by rw [hF3]; exact hk)
  have HF := Lib.hid (And.intro hput2 hE4)
  have HV4 := Lib.hid hV4
  clear hdr hb2 hbV hPF oV hP hS0 hsV hE3 o3 o4 hR3 hF3 hPF' hR4 hsm2 hput2 hE4 hV4
  go_upto_region 9 with fail
  rw [← HV4.out]
  go_wp2_with fail
  refine HF.out.1.mono ?_
  rintro e w5 ⟨rfl, F5, hF5, hE5⟩
  have H5 := Lib.hid (And.intro hF5 hE5)
  clear hF5 hE5
  go_wp2_with fail
  go_ret
  obtain ⟨h, hp, hgk, hg, hlen, hs1, hs2, hm, hL1, hsL, hperm, hput⟩ := H.out
  have p1 : (frename n to2 st.files).Perm L2 := by
    rw [frename_some hg]
    exact (fput_perm (h.srt.named.fdel n) hs2 _).trans (by rw [← hL1]; exact hperm)
  exact ⟨rfl, { stepSt st with files := L2 }, ⟨p1, rfl, rfl, rfl, rfl⟩, F5, H5.out.1, H1.out.2.trans ((Eff.below Hd.out.2.1).trans (HF.out.2.trans H5.out.2))⟩
end
end Go.Proofs.Ytmjeanbbhacnaaa
namespace Go.Proofs.Ytmjeanbbhacnaaa
open Go.RowKit
def RAt (w : World) (x : Nat) (st : St) (F : Nat → Prop) : Prop := ∃ st0, RD w x st0 F ∧ St.Like st st0
def RTurns (w : World) (x : Nat) (F : Nat → Prop) (st : St) (w' : World) : Prop := ∃ F', RAt w' x st F' ∧ Eff F w F' w'
theorem St.Like.trans {a b c : St} (h : St.Like a b) (k : St.Like b c) : St.Like a c := ⟨h.files.trans k.files, h.room.trans k.room, h.after.trans k.after, h.torn.trans k.torn, h.dead.trans k.dead⟩
theorem RAt.lt {w : World} {x : Nat} {st : St} {F : Nat → Prop} (h : RAt w x st F) {k : Nat} (hk : F k) : k < w.heap.size := by
  obtain ⟨st0, ⟨rb, cap, h1, rfl⟩, _⟩ := h
  exact h1.lt hk
theorem RAt.kept {w w' : World} {x : Nat} {st : St} {F : Nat → Prop} (h : RAt w x st F) (hk : ∀ k, F k → w'.heap[k]? = w.heap[k]?) : RAt w' x st F := by
  obtain ⟨st0, ⟨rb, cap, h1, rfl⟩, h2⟩ := h
  exact ⟨st0, ⟨rb, cap, h1.kept hk, rfl⟩, h2⟩
theorem RAt.below {w w' : World} {x : Nat} {st : St} {F : Nat → Prop} (h : RAt w x st F) (hb : Below w.heap.size w w') : RAt w' x st F := h.kept fun _ hk => hb.block _ (h.lt hk)
theorem RAt.named {w : World} {x : Nat} {st : St} {F : Nat → Prop} (h : RAt w x st F) : Named st.files := by
  obtain ⟨st0, ⟨rb, cap, h1, rfl⟩, h2⟩ := h
  exact h1.srt.named.perm h2.files.symm
theorem RAt.small {w : World} {x : Nat} {st : St} {F : Nat → Prop} (h : RAt w x st F) : st.Small := by
  obtain ⟨st0, ⟨rb, cap, h1, rfl⟩, h2⟩ := h
  refine ⟨?_, ?_, ?_⟩
  · rw [ftotal_perm h2.files]; exact h1.small.total
  · rw [h2.room]; exact h1.small.room
  · rw [h2.after]; exact h1.small.after
theorem RLike.turns {w w' : World} {x : Nat} {F : Nat → Prop} {st st0 : St} (h : RLike w x F st0 w') (hl : St.Like st st0) : RTurns w x F st w' := by
  obtain ⟨st', h1, F', h2, h3⟩ := h
  exact ⟨F', ⟨st', h2, hl.trans h1⟩, h3⟩
theorem RTurns.below {w w' : World} {x : Nat} {F : Nat → Prop} {st : St} (h : RAt w x st F) (hb : Below w.heap.size w w') : RTurns w x F st w' := ⟨F, h.below hb, Eff.below hb⟩
theorem RTurns.trans {w w1 w2 : World} {x : Nat} {F : Nat → Prop} {s1 s2 : St} (h : RTurns w x F s1 w1) (k : ∀ F1, RAt w1 x s1 F1 → RTurns w1 x F1 s2 w2) : RTurns w x F s2 w2 := by
  obtain ⟨F1, h1, h2⟩ := h
  obtain ⟨F2, k1, k2⟩ := k F1 h1
  exact ⟨F2, k1, h2.trans k2⟩
section
variable {w : World} {x : Nat} {rb : Option Nat} {cap : Nat} {st : St} {F : Nat → Prop}
theorem rappend_d (h : RefD w x rb cap st) (n s : ByteArray) (hs : (s.size : Int) ≤ 281474976710656) (hlen : st.files.length < 1000000) :
    Calls Try.prog 56 #[.pointer (some ⟨x, 0, none⟩), .string n, .string s] w fun e w' => e = .returned (.int .i64 (St.append st n s.data.toList).2) ∧ RLike w x (rfoot x rb) (St.append st n s.data.toList).1 w' := by
  have hll := list_size s
  by_cases hd : st.dead = true
  · have e : St.append st n s.data.toList = (st, 19) := by unfold St.append; rw [if_pos hd]
    rw [e]; exact rapp_dead h n s hd
  · have hd' : st.dead = false := by simpa using hd
    by_cases ha : st.after = 0
    · by_cases hf : (ftotal st.files : Int) + s.size ≤ st.room
      · have hfits : st.fits s.data.toList.length = true := by unfold St.fits; rw [hll]; exact decide_eq_true hf
        have e : St.append st n s.data.toList = ({ st with dead := true, files := tornL st.files n s.data.toList true (tornK st.torn s.size) }, 19) := by unfold St.append; rw [if_neg hd, if_pos ha, hfits, hll]
        have hK : ((tornK st.torn s.size : Nat) : Int) = max (min st.torn s.size) 0 := by unfold tornK; omega
        rw [e]
        by_cases hK0 : 0 < tornK st.torn s.size
        · rw [tornL_yes _ _ _ _ hK0]
          cases hg : fget st.files n with
          | none => exact rapp_lay_none h n s hd' ha hs hf _ hK hK0 hg hlen
          | some g => exact rapp_lay_some h n s hd' ha hs hf _ hK hK0 hg hlen
        · rw [tornL_no _ _ _ _ _ (.inr hK0)]
          cases hg : fget st.files n with
          | none => exact rapp_no_none h n s hd' ha hs hf _ hK hK0 hg hlen
          | some g => exact rapp_no_some h n s hd' ha hs hf _ hK hK0 hg hlen
      · have hfits : st.fits s.data.toList.length = false := by unfold St.fits; rw [hll]; exact decide_eq_false hf
        have e : St.append st n s.data.toList = ({ st with dead := true, files := tornL st.files n s.data.toList false (tornK st.torn s.size) }, 19) := by unfold St.append; rw [if_neg hd, if_pos ha, hfits, hll]
        rw [e, tornL_no _ _ _ _ _ (.inl rfl)]
        exact rapp_full_crash h n s hd' ha hs hf hlen
    · by_cases hf : (ftotal st.files : Int) + s.size ≤ st.room
      · have hfits : st.fits s.data.toList.length = true := by unfold St.fits; rw [hll]; exact decide_eq_true hf
        have e : St.append st n s.data.toList = ({ stepSt st with files := flay st.files n s.data.toList }, 0) := by unfold St.append; rw [if_neg hd, if_neg ha, if_pos hfits]; rfl
        rw [e]
        cases hg : fget st.files n with
        | none => exact rapp_ok_none h n s hd' ha hs hf hg hlen
        | some g => exact rapp_ok_some h n s hd' ha hs hf hg hlen
      · have hfits : ¬ st.fits s.data.toList.length = true := by unfold St.fits; rw [hll, decide_eq_false hf]; decide
        have e : St.append st n s.data.toList = (stepSt st, 5) := by unfold St.append; rw [if_neg hd, if_neg ha, if_neg hfits]; rfl
        rw [e]
        exact rapp_full_ok h n s hd' ha hs hf hlen
/-- The three deeds of a file that is there. -/
theorem rdeed_d {f : FuncId} {args : Array Value} (n : ByteArray) (D : List Fi → List Fi)
    (h1 : st.dead = true → Calls Try.prog f args w fun e w' => e = .returned (.int .i64 19) ∧ RLike w x (rfoot x rb) st w')
    (h2 : st.dead = false → st.after = 0 → Calls Try.prog f args w fun e w' => e = .returned (.int .i64 19) ∧ RLike w x (rfoot x rb) { st with dead := true } w')
    (h3 : st.dead = false → st.after ≠ 0 → fget st.files n = none → Calls Try.prog f args w fun e w' => e = .returned (.int .i64 6) ∧ RLike w x (rfoot x rb) (stepSt st) w')
    (h4 : ∀ g, st.dead = false → st.after ≠ 0 → fget st.files n = some g → Calls Try.prog f args w fun e w' => e = .returned (.int .i64 0) ∧ RLike w x (rfoot x rb) { stepSt st with files := D st.files } w') :
    Calls Try.prog f args w fun e w' => e = .returned (.int .i64 (St.deed st n D).2) ∧ RLike w x (rfoot x rb) (St.deed st n D).1 w' := by
  by_cases hd : st.dead = true
  · have e : St.deed st n D = (st, 19) := by unfold St.deed; rw [if_pos hd]
    rw [e]; exact h1 hd
  · have hd' : st.dead = false := by simpa using hd
    by_cases ha : st.after = 0
    · have e : St.deed st n D = ({ st with dead := true }, 19) := by unfold St.deed; rw [if_neg hd, if_pos ha]
      rw [e]; exact h2 hd' ha
    · cases hg : fget st.files n with
      | none =>
        have e : St.deed st n D = (stepSt st, 6) := by unfold St.deed; rw [if_neg hd, if_neg ha, hg]; rfl
        rw [e]; exact h3 hd' ha hg
      | some g =>
        have e : St.deed st n D = ({ stepSt st with files := D st.files }, 0) := by unfold St.deed; rw [if_neg hd, if_neg ha, hg]; rfl
        rw [e]; exact h4 g hd' ha hg
theorem rappend_at (h : RAt w x st F) (n s : ByteArray) (hs : (s.size : Int) ≤ 281474976710656) (hlen : st.files.length < 1000000) :
    Calls Try.prog 56 #[.pointer (some ⟨x, 0, none⟩), .string n, .string s] w fun e w' => e = .returned (.int .i64 (St.append st n s.data.toList).2) ∧ RTurns w x F (St.append st n s.data.toList).1 w' := by
  have hn := h.named
  obtain ⟨st0, ⟨rb, cap, h1, rfl⟩, hl⟩ := h
  obtain ⟨l1, l2⟩ := St.append_like hl hn n s.data.toList
  rw [l2]
  exact (rappend_d h1 n s hs (by rw [← hl.files.length_eq]; exact hlen)).mono fun e w' hx => ⟨hx.1, hx.2.turns l1⟩
theorem rsync_at (h : RAt w x st F) (n : ByteArray) (hlen : st.files.length < 1000000) :
    Calls Try.prog 81 #[.pointer (some ⟨x, 0, none⟩), .string n] w fun e w' => e = .returned (.int .i64 (St.sync n st).2) ∧ RTurns w x F (St.sync n st).1 w' := by
  have hn := h.named
  obtain ⟨st0, ⟨rb, cap, h1, rfl⟩, hl⟩ := h
  have hlen0 : st0.files.length < 1000000 := by rw [← hl.files.length_eq]; exact hlen
  obtain ⟨l1, l2⟩ := St.deed_like hl hn n (fsync n) (fsync_perm hn hl.files n)
  unfold St.sync
  rw [l2]
  exact (rdeed_d n (fsync n) (fun hd => rsync_dead h1 n hd) (fun hd ha => rsync_crash h1 n hd ha) (fun hd ha hg => rsync_none h1 n hd ha hg hlen0) (fun g hd ha hg => rsync_some h1 n hd ha hg hlen0)).mono fun e w' hx => ⟨hx.1, hx.2.turns l1⟩
theorem rdel_at (h : RAt w x st F) (n : ByteArray) (hlen : st.files.length < 1000000) :
    Calls Try.prog 101 #[.pointer (some ⟨x, 0, none⟩), .string n] w fun e w' => e = .returned (.int .i64 (St.del n st).2) ∧ RTurns w x F (St.del n st).1 w' := by
  have hn := h.named
  obtain ⟨st0, ⟨rb, cap, h1, rfl⟩, hl⟩ := h
  have hlen0 : st0.files.length < 1000000 := by rw [← hl.files.length_eq]; exact hlen
  obtain ⟨l1, l2⟩ := St.deed_like hl hn n (fun l => fdel l n) (fdel_perm hl.files n)
  unfold St.del
  rw [l2]
  exact (rdeed_d n (fun l => fdel l n) (fun hd => rdel_dead h1 n hd) (fun hd ha => rdel_crash h1 n hd ha) (fun hd ha hg => rdel_none h1 n hd ha hg hlen0) (fun g hd ha hg => rdel_some h1 n hd ha hg hlen0)).mono fun e w' hx => ⟨hx.1, hx.2.turns l1⟩
theorem rren_at (h : RAt w x st F) (n b : ByteArray) (hlen : st.files.length < 1000000) :
    Calls Try.prog 102 #[.pointer (some ⟨x, 0, none⟩), .string n, .string b] w fun e w' => e = .returned (.int .i64 (St.ren n b st).2) ∧ RTurns w x F (St.ren n b st).1 w' := by
  have hn := h.named
  obtain ⟨st0, ⟨rb, cap, h1, rfl⟩, hl⟩ := h
  have hlen0 : st0.files.length < 1000000 := by rw [← hl.files.length_eq]; exact hlen
  obtain ⟨l1, l2⟩ := St.deed_like hl hn n (frename n b) (frename_perm hn hl.files n b)
  unfold St.ren
  rw [l2]
  exact (rdeed_d n (frename n b) (fun hd => rren_dead h1 n b hd) (fun hd ha => rren_crash h1 n b hd ha) (fun hd ha hg => rren_none h1 n b hd ha hg hlen0) (fun g hd ha hg => rren_some h1 n b hd ha hg hlen0)).mono fun e w' hx => ⟨hx.1, hx.2.turns l1⟩
theorem rread_at (h : RAt w x st F) (n : ByteArray) (hlen : st.files.length < 1000000) :
    Calls Try.prog 60 #[.pointer (some ⟨x, 0, none⟩), .string n] w fun e w' => e = .returned (.tuple #[.string (rdText st.files n), .bool (rdThere st.files n)]) ∧ Below w.heap.size w w' := by
  have hn := h.named
  obtain ⟨st0, ⟨rb, cap, h1, rfl⟩, hl⟩ := h
  have e := fget_perm hn hl.files n
  have e1 : rdText st.files n = rdText st0.files n := by unfold rdText; rw [e]
  have e2 : rdThere st.files n = rdThere st0.files n := by unfold rdThere; rw [e]
  rw [e1, e2]
  exact rread_c h1 n (by rw [← hl.files.length_eq]; exact hlen)
theorem rarm_at (h : RAt w x st F) (a t : Int) (ha : a ≤ 9223372036854775807) :
    Calls Try.prog 57 #[.pointer (some ⟨x, 0, none⟩), .int .i64 a, .int .i64 t] w fun e w' => e = .returned (.tuple #[]) ∧ RTurns w x F { st with after := max a (-1), torn := t } w' := by
  obtain ⟨st0, ⟨rb, cap, h1, rfl⟩, hl⟩ := h
  refine (rarm_c h1 a t ha).mono ?_
  rintro e w' ⟨he, F', hF, hE⟩
  exact ⟨he, F', ⟨_, hF, hl.files, hl.room, rfl, rfl, hl.dead⟩, hE⟩
end
end Go.Proofs.Ytmjeanbbhacnaaa
namespace Go.Proofs.Ytmjeanbbhacnaaa
open Go.RowKit
attribute [local go_sem ↓] Go.wp_at_zero Go.wp_at_succ
/-- An append whose run is known, in a region that draws its order. -/
theorem step_append_run {P : Program} {ops : Array Oper} {o : Oper} {a : Act} {w : World} {K : Act → World → Prop} {Q : Exit → Act → World → Prop} {E : Prop} (hg : o.guard = none) (s x : Operand) (t tx : TypeId)
    (hop : o.op = Op.call { callee := Callee.builtin Builtin.append, args := #[s, x], argTypes := #[t, tx] }) (v sv v' : Value) (W : World) (hs : a.eval s = v) (hx : a.eval x = sv)
    (hrun : (Builtin.append_ #[t, tx] o.type #[v, sv]).run P w = .ok v' W) (hK : K (a.put o.dst v') W) : if Region.wanted o (yielded ops a.tmps) = true then Oper.wp P o a w K Q else E := by
  have hw : Region.wanted o (yielded ops a.tmps) = true := by simp [Region.wanted, hg]
  rw [if_pos hw]
  obtain ⟨dst, op, type, pos, after, guard⟩ := o
  simp only at hop hg
  subst hop
  subst hg
  unfold Oper.wp
  rw [BigFrame.execOp_builtin, BigFrame.builtin_append]
  simp only [List.map_toArray, List.map_cons, List.map_nil, hs, hx, Sem.run_bind, hrun, Result.andThen_ok, Sem.run_pure]
  exact hK
/-- One file more. -/
theorem run_append_file (w : World) (ty : TypeId) (gb : Option Nat) (cp n : Nat) (cs : List Value) (hr : VRow 91 3 w gb cp n cs) (f : Fi) (hn : n < 1000000) :
    ∃ b' cap' W, (Builtin.append_ #[84, 84] ty #[.slice (gb.map fun b => ⟨b, 0, none⟩) n cp, .slice (some ⟨w.heap.size, 0, none⟩) 1 1]).run Try.prog
        (w.alloc (.cells #[.string f.name, .string (txt f.bytes), .int .i64 (f.synced : Int)] 91 (0, 0))) = .ok (.slice (some ⟨b', 0, none⟩) (n + 1) cap') W ∧
      VRow 91 3 W (some b') cap' (n + 1) (cs ++ fiCells f) ∧ (gb = some b' ∨ w.heap.size ≤ b') ∧ w.grownBy W gb := by
  obtain ⟨i, hi, hz, hsz, hby⟩ := info_parts info_file
  obtain ⟨w1, hw1⟩ : ∃ w1, w1 = w.alloc (.cells #[.string f.name, .string (txt f.bytes), .int .i64 (f.synced : Int)] 91 (0, 0)) := ⟨_, rfl⟩
  have hbel : Below w.heap.size w w1 := by rw [hw1]; exact (Below.refl _ _).alloc (Nat.le_refl _) _
  have hs1 : w1.heap.size = w.heap.size + 1 := by rw [hw1]; exact World.size_alloc _ _
  have hsrc : Src Try.prog i.size 84 (.slice (some ⟨w.heap.size, 0, none⟩) 1 1) 1 (fiCells f) w1 := by
    rw [hw1, hsz]
    exact src_cells w _ _ Try.underlying84 (fiCells f) (fiCells_one f) 3 rfl _ rfl 1
  obtain ⟨b', cap', W, r1, r2, r3, r4⟩ := run_append_v w1 84 ty 91 i _ Try.underlying84 hi hz (by rw [hsz]; rfl) (by omega) gb cp n _ (by rw [hsz]; exact hr.below hbel) _ _ hsrc (by omega)
  rw [hsz] at r2
  rw [← hw1]
  refine ⟨b', cap', W, r1, r2, ?_, ⟨r4.os.trans hbel.os, r4.tape.trans hbel.tape, r4.output.trans hbel.output, Nat.le_trans hbel.size r4.size, fun k hk hne => (r4.block k (by omega) hne).trans (hbel.block k hk)⟩⟩
  rcases r3 with e | e
  · exact .inl e
  · exact .inr (by omega)
theorem keepN_le (keep : Int) (f : Fi) (h : f.synced ≤ f.bytes.length) : keepN keep f ≤ f.bytes.length := by unfold keepN; omega
theorem lost_srt {L : List Fi} (keep : Int) (h : Srt L) : Srt (L.map (flost keep)) := by
  unfold Srt at *
  rw [List.pairwise_map]
  exact h
section
variable {w : World} {x : Nat} {rb : Option Nat} {cap : Nat} {st : St}
set_option maxRecDepth 100000 in
set_option maxHeartbeats 1600000 in
theorem rlost_d (h : RefD w x rb cap st) (keep : Int) (hsy : ∀ f ∈ st.files, f.synced ≤ f.bytes.length) (hlen : st.files.length < 1000000) :
    Calls Try.prog 58 #[.pointer (some ⟨x, 0, none⟩), .int .i64 keep] w fun e w' => ∃ x2 F2, e = .returned (.pointer (some ⟨x2, 0, none⟩)) ∧ RD w' x2 ⟨st.files.map (flost keep), st.room, -1, 0, false⟩ F2 ∧ (∀ k, F2 k → w.heap.size ≤ k) ∧ Below w.heap.size w w' := by
  obtain ⟨m, hm⟩ : ∃ m, m = st.files.length := ⟨_, rfl⟩
  have hmI : (m : Int) ≤ 1000000 := by omega
  obtain ⟨r, hr⟩ : ∃ r, r = st.room := ⟨_, rfl⟩
  have c1 := h.cell.2.1
  rw [← hr] at c1
  obtain ⟨W1, hW1⟩ : ∃ W1, W1 = w.alloc (.cells #[.slice none 0 0, .int .i64 r, .int .i64 (-1), .int .i64 0, .bool false] 86 (0, 0)) := ⟨_, rfl⟩
  have hb1 : Below w.heap.size w W1 := by rw [hW1]; exact (Below.refl _ _).alloc (Nat.le_refl _) _
  have hs1 : W1.heap.size = w.heap.size + 1 := by rw [hW1]; exact World.size_alloc _ _
  have o1 : W1.heap[w.heap.size]? = some (.cells #[.slice none 0 0, .int .i64 r, .int .i64 (-1), .int .i64 0, .bool false] 86 (0, 0)) := by rw [hW1]; exact heap_alloc_new _ _
  obtain ⟨Q, hQ⟩ : ∃ Q, Q = w.heap.size := ⟨_, rfl⟩
  rw [← hQ] at o1 hs1
  have H := Lib.hid (And.intro h (And.intro hsy (And.intro hlen (And.intro hm (And.intro hr (And.intro hb1 (And.intro hs1 (And.intro o1 hQ))))))))
  have HW1 := Lib.hid hW1
  clear h hsy hlen hm hr hb1 hs1 o1 hQ hW1
  go_enter Try.func58, Try.ntmps58
  go_upto_region 2 with fail
  rw [← HW1.out, ← H.out.2.2.2.2.2.2.2.2]
  clear c1
  go_wp2_with fail
  go_loopw [6] (fun i wr => ∃ (j : Nat) (gb : Option Nat) (cp : Nat), i = .int .i64 j ∧ (j : Int) ≤ m ∧ wr.heap[Q]? = some (.cells #[.slice (gb.map fun b => ⟨b, 0, none⟩) j cp, .int .i64 r, .int .i64 (-1), .int .i64 0, .bool false] 86 (0, 0)) ∧
    VRow 91 3 wr gb cp j (fCells ((st.files.take j).map (flost keep))) ∧ (∀ b, gb = some b → Q < b) ∧ Below w.heap.size w wr) (fun i _ => m - (intOf i).toNat)
  case atStart => exact ⟨0, none, 0, rfl, by omega, H.out.2.2.2.2.2.2.2.1, ⟨rfl, Nat.le_refl _, rfl⟩, (fun b e => by cases e), H.out.2.2.2.2.2.1⟩
  case round =>
    obtain ⟨j, gb, cp, rfl, hj, hQo, hR, hnew, hb⟩ := hrel
    have hj0 : (0 : Int) ≤ (j : Int) := by omega
    have hr := H.out.1.below hb
    have c0 := hr.cell.1
    rw [← H.out.2.2.2.1] at c0
    obtain ⟨ga, hga⟩ : ∃ ga : Option Addr, ga = gb.map fun b => ⟨b, 0, none⟩ := ⟨_, rfl⟩
    by_cases hlt : (j : Int) < (m : Int)
    · have hjl : j < st.files.length := by have := H.out.2.2.2.1; omega
      obtain ⟨f, hf⟩ : ∃ f, f = st.files[j] := ⟨_, rfl⟩
      obtain ⟨b, rfl, hbl, q0, q1, q2, _⟩ := hr.file j hjl
      rw [← hf] at q0 q1 q2
      obtain ⟨S0, hS0⟩ : ∃ S0, S0 = txt f.bytes := ⟨_, rfl⟩
      rw [← hS0] at q1
      have hfs : f.synced ≤ f.bytes.length := H.out.2.1 f (by rw [hf]; exact List.getElem_mem hjl)
      have hS0s : S0.size = f.bytes.length := by rw [hS0, txt_size]
      have hfb : (f.bytes.length : Int) ≤ 1099511627776 := by
        have h1 := ftotal_take hjl
        have h2 := ftotal_take_le st.files (j + 1)
        have h3 := hr.small.total
        rw [← hf] at h1
        omega
      obtain ⟨V, hV⟩ : ∃ V, V = wr.alloc (.cells #[.string f.name, .string S0, .int .i64 (f.synced : Int)] 91 (0, 0)) := ⟨_, rfl⟩
      have hbV : Below wr.heap.size wr V := by rw [hV]; exact (Below.refl _ _).alloc (Nat.le_refl _) _
      have hsV : V.heap.size = wr.heap.size + 1 := by rw [hV]; exact World.size_alloc _ _
      have oV : V.heap[wr.heap.size]? = some (.cells #[.string f.name, .string S0, .int .i64 (f.synced : Int)] 91 (0, 0)) := by rw [hV]; exact heap_alloc_new _ _
      have hQV := (hbV.block Q (lt_of_block hQo)).trans hQo
      obtain ⟨N, hN⟩ : ∃ N, N = keepN keep f := ⟨_, rfl⟩
      have hNl : N ≤ f.bytes.length := by rw [hN]; exact keepN_le _ _ hfs
      obtain ⟨b', cap', W, r1, r2, r3, r4⟩ := run_append_file V.drew 84 gb cp j _ (hR.kept fun b e => hbV.block b (by rw [e] at hR; exact hR.lt)) ⟨f.name, f.bytes.take N, N⟩ (by omega)
      rw [show txt (⟨f.name, f.bytes.take N, N⟩ : Fi).bytes = S0.extract 0 N from by rw [hS0, ← txt_take]; rfl] at r1
      obtain ⟨P, hP⟩ : ∃ P, P = wr.heap.size := ⟨_, rfl⟩
      rw [← hP] at oV hsV
      have a0 : V.cell? ⟨P, 0, none⟩ = some (.string f.name) := by rw [cell_of_row _ _ _ _ _ _ oV]; rfl
      have a1 : V.cell? ⟨P, 1, none⟩ = some (.string S0) := by rw [cell_of_row _ _ _ _ _ _ oV]; rfl
      have a2 : V.cell? ⟨P, 2, none⟩ = some (.int .i64 (f.synced : Int)) := by rw [cell_of_row _ _ _ _ _ _ oV]; rfl
      have d0 : V.cell? ⟨Q, 0, none⟩ = some (.slice ga j cp) := by rw [cell_of_row _ _ _ _ _ _ hQV, hga]; rfl
      obtain ⟨sy, hsyn⟩ : ∃ sy, sy = f.synced := ⟨_, rfl⟩
      rw [← hsyn] at a2 q2
      have hsI : (sy : Int) ≤ (S0.size : Int) := by omega
      have hsI2 : (S0.size : Int) ≤ 1099511627776 := by omega
      have hsI0 : (0 : Int) ≤ (sy : Int) := by omega
      rw [← hsyn] at hV
      have HV := Lib.hid hV
      have HN := Lib.hid (And.intro hN (And.intro hS0s hsyn))
      have HP := Lib.hid hP
      have hNr : (sy : Int) + min (max keep 0) ((S0.size : Int) - (sy : Int)) = (N : Int) := by rw [hN]; unfold keepN; rw [← hsyn]; omega
      have hNI : (N : Int) ≤ (S0.size : Int) := by omega
      have hN0 : (0 : Int) ≤ (N : Int) := by omega
      obtain ⟨V4, hV4⟩ : ∃ V4, V4 = V.alloc (.cells #[.string f.name, .string (S0.extract 0 N), .int .i64 (N : Int)] 91 (0, 0)) := ⟨_, rfl⟩
      have hb4 : Below V.heap.size V V4 := by rw [hV4]; exact (Below.refl _ _).alloc (Nat.le_refl _) _
      have happ : (Builtin.append_ #[84, 84] 84 #[.slice ga j cp, .slice (some ⟨V.heap.size, 0, none⟩) 1 1]).run Try.prog V4.drew = .ok (.slice (some ⟨b', 0, none⟩) (j + 1) cap') W := by rw [hV4, hga]; exact r1
      have oV4 := (hb4.block P (lt_of_block oV)).trans oV
      have hQV4 := (hb4.block Q (lt_of_block hQV)).trans hQV
      have e0 : V4.cell? ⟨P, 0, none⟩ = some (.string f.name) := by rw [cell_of_row _ _ _ _ _ _ oV4]; rfl
      have e1 : V4.cell? ⟨P, 1, none⟩ = some (.string S0) := by rw [cell_of_row _ _ _ _ _ _ oV4]; rfl
      have g0 : V4.cell? ⟨Q, 0, none⟩ = some (.slice ga j cp) := by rw [cell_of_row _ _ _ _ _ _ hQV4, hga]; rfl
      have hQr : gb ≠ some Q := fun e => by have := hnew Q e; omega
      have hQW := (r4.block Q (lt_of_block hQV) (Ne.symm hQr)).trans hQV
      have z0 : W.cell? ⟨Q, 0, none⟩ = some (.slice ga j cp) := by rw [cell_of_row _ _ _ _ _ _ hQW, hga]; rfl
      have z0f := frozen_of_row W Q 0 _ _ hQW
      have Happ := Lib.hid happ
      have HV4 := Lib.hid hV4
      have hstate : (W.setCell ⟨Q, 0, none⟩ (.slice (some ⟨b', 0, none⟩) (j + 1) cap')).heap[Q]? = some (.cells #[.slice ((some b').map fun b => ⟨b, 0, none⟩) (j + 1) cap', .int .i64 r, .int .i64 (-1), .int .i64 0, .bool false] 86 (0, 0)) := by rw [setCell_block _ hQW]; rfl
      have hbQ : b' ≠ Q := by
        rcases r3 with e | e
        · exact fun e2 => hQr (by rw [e, e2])
        · have h1 := lt_of_block hQV
          have h2 : V.drew.heap.size = V.heap.size := rfl
          omega
      have hbQ2 : Q < b' := by
        rcases r3 with e | e
        · exact hnew _ e
        · have h1 := lt_of_block hQV
          have h2 : V.drew.heap.size = V.heap.size := rfl
          omega
      have hrow : VRow 91 3 (W.setCell ⟨Q, 0, none⟩ (.slice (some ⟨b', 0, none⟩) (j + 1) cap')) (some b') cap' (j + 1) (fCells ((st.files.take (j + 1)).map (flost keep))) := by
        have e : fCells ((st.files.take (j + 1)).map (flost keep)) = fCells ((st.files.take j).map (flost keep)) ++ fiCells ⟨f.name, f.bytes.take N, N⟩ := by
          rw [List.take_succ_eq_append_getElem hjl, List.map_append, fCells_append, ← hf, hN]
          simp [fCells, flost]
        rw [e]
        exact r2.kept fun b e => by cases e; exact setCell_other _ hbQ
      have hbw : Below w.heap.size w (W.setCell ⟨Q, 0, none⟩ (.slice (some ⟨b', 0, none⟩) (j + 1) cap')) := by
        have h1 : Below w.heap.size w V := hb.trans (hbV.mono hb.size)
        have h2 : Below w.heap.size w W := ⟨r4.os.trans h1.os, r4.tape.trans h1.tape, r4.output.trans h1.output, Nat.le_trans h1.size r4.size, fun k hk => (r4.block k (by show k < V.heap.size; have := h1.size; omega) (fun e => by have := hnew k e.symm; have := H.out.2.2.2.2.2.2.2.2; omega)).trans (h1.block k hk)⟩
        exact h2.setCell (p := ⟨Q, 0, none⟩) (Nat.le_of_eq H.out.2.2.2.2.2.2.2.2.symm) _
      have HF := Lib.hid (And.intro hstate (And.intro hrow (And.intro hbQ2 hbw)))
      clear hQV hV hN hS0s hsyn hP hf hS0 hstate hrow hbQ hbQ2 hbw r1 r2 r3 r4 happ hV4 hb4 oV4 hQV4 hQW hQr hQo hR hnew hb hr hga hbl hbV hsV oV hfs hfb hNl
      have hw4 := HV4.out.symm
      go_upto_region 6 with fail
      rw [← HV.out, ← HP.out]
      clear q0 q1 q2 c0
      go_upto_region 7 with fail
      go_region_law (refine step_append_run rfl (.tmp 47) (.tmp 56) 84 84 rfl (.slice ga j cp) (.slice (some ⟨V.heap.size, 0, none⟩) 1 1) _ W (by simp [Act.eval]) (by simp [Act.eval]) Happ.out ?_)
      all_goals go_wp2_with fail
      all_goals exact ⟨⟨j + 1, some b', cap', by go_num, by omega, HF.out.1, HF.out.2.1, (fun b e => by cases e; exact HF.out.2.2.1), HF.out.2.2.2⟩, by simp [intOf]; omega⟩
    · have hjm : j = m := by omega
      have hfin : ∃ x2 F2, Ending.returned (.pointer (some ⟨Q, 0, none⟩)) = Ending.returned (.pointer (some ⟨x2, 0, none⟩)) ∧ RD wr x2 ⟨st.files.map (flost keep), st.room, -1, 0, false⟩ F2 ∧ (∀ k, F2 k → w.heap.size ≤ k) ∧ Below w.heap.size w wr := by
        obtain ⟨h, hsy, hlen, hm, hr', hb1, hs1, o1, hQ⟩ := H.out
        have htk : st.files.take j = st.files := List.take_of_length_le (by omega)
        rw [htk] at hR
        have hll : (st.files.map (flost keep)).length = j := by rw [List.length_map]; omega
        refine ⟨Q, rfoot Q gb, rfl, ⟨gb, cp, ⟨?_, ?_, lost_srt keep h.srt, ⟨?_, h.small.room, by show (-1 : Int) ≤ _; omega⟩⟩, rfl⟩, fun k hk => ?_, hb⟩
        · rw [hQo, hll, hr']
        · show VRow _ 3 wr gb cp (st.files.map (flost keep)).length _
          rw [hll]; exact hR
        · exact Nat.le_trans (ftotal_lost _ _) h.small.total
        · rcases hk with e | e
          · omega
          · have := hnew k e; omega
      have HF := Lib.hid hfin
      clear hfin hQo hR hnew hb hr hga hjm
      go_wp2_with fail
      go_ret
      obtain ⟨x2, F2, h1, h2⟩ := HF.out
      exact ⟨x2, h1, F2, h2⟩
theorem rlost_at {F : Nat → Prop} (h : RAt w x st F) (keep : Int) (hsy : ∀ f ∈ st.files, f.synced ≤ f.bytes.length) (hlen : st.files.length < 1000000) :
    Calls Try.prog 58 #[.pointer (some ⟨x, 0, none⟩), .int .i64 keep] w fun e w' => ∃ x2, e = .returned (.pointer (some ⟨x2, 0, none⟩)) ∧ (∃ F2, RAt w' x2 ⟨st.files.map (flost keep), st.room, -1, 0, false⟩ F2 ∧ ∀ k, F2 k → w.heap.size ≤ k) ∧ Below w.heap.size w w' := by
  obtain ⟨st0, ⟨rb, cap, h1, rfl⟩, hl⟩ := h
  refine (rlost_d h1 keep (fun f hf => hsy f (hl.files.mem_iff.2 hf)) (by rw [← hl.files.length_eq]; exact hlen)).mono ?_
  rintro e w' ⟨x2, F2, he, hD, hF, hb⟩
  exact ⟨x2, he, ⟨F2, ⟨_, hD, hl.files.map _, hl.room, rfl, rfl, rfl⟩, hF⟩, hb⟩
set_option maxRecDepth 100000 in
theorem rnew_c (w : World) (room : Int) (h0 : 0 ≤ room) (h1 : room ≤ 1048576) : Calls Try.prog 24 #[.int .i64 room] w fun e w' => ∃ x, e = .returned (.pointer (some ⟨x, 0, none⟩)) ∧ (∃ F, RAt w' x ⟨[], room, -1, 0, false⟩ F ∧ ∀ k, F k → w.heap.size ≤ k) ∧ Below w.heap.size w w' := by
  obtain ⟨W1, hW1⟩ : ∃ W1, W1 = w.alloc (.cells #[.slice none 0 0, .int .i64 room, .int .i64 (-1), .int .i64 0, .bool false] 86 (0, 0)) := ⟨_, rfl⟩
  have hb1 : Below w.heap.size w W1 := by rw [hW1]; exact (Below.refl _ _).alloc (Nat.le_refl _) _
  have o1 : W1.heap[w.heap.size]? = some (.cells #[.slice none 0 0, .int .i64 room, .int .i64 (-1), .int .i64 0, .bool false] 86 (0, 0)) := by rw [hW1]; exact heap_alloc_new _ _
  have hfin : (∃ F, RAt W1 w.heap.size ⟨[], room, -1, 0, false⟩ F ∧ ∀ k, F k → w.heap.size ≤ k) ∧ Below w.heap.size w W1 := by
    refine ⟨⟨rfoot w.heap.size none, ⟨⟨[], room, -1, 0, false⟩, ⟨none, 0, ⟨o1, ⟨rfl, Nat.le_refl _, rfl⟩, List.Pairwise.nil, ⟨by show 0 ≤ _; omega, by show room ≤ _; omega, by show (-1 : Int) ≤ _; omega⟩⟩, rfl⟩, .refl _⟩, fun k hk => ?_⟩, hb1⟩
    rcases hk with e | e
    · omega
    · cases e
  have HF := Lib.hid hfin
  have HW1 := Lib.hid hW1
  clear hb1 o1 hfin hW1
  go_enter Try.func24, Try.ntmps24
  go_wp2_with fail
  go_ret
  exact ⟨w.heap.size, rfl, by rw [← HW1.out]; exact HF.out⟩
end
end Go.Proofs.Ytmjeanbbhacnaaa
