/- The reference of chapter 6: Append, way by way. The bound: at most 10^6 files. -/
import Derived.Test.YtmjeanbbhacnaaaRDiskAll
import Derived.Deep.QuietTactic
import Derived.BigQuiet
namespace Go.Proofs.Ytmjeanbbhacnaaa
open Go.RowKit
attribute [local go_sem ↓] Go.wp_at_zero Go.wp_at_succ
theorem txt_list (s : ByteArray) : txt s.data.toList = s := by unfold txt; cases s; simp
theorem txt_append (a b : List UInt8) : txt (a ++ b) = txt a ++ txt b := by
  apply ByteArray.ext
  simp [txt]
theorem txt_take (s : ByteArray) (K : Nat) : txt (s.data.toList.take K) = s.extract 0 K := by
  apply ByteArray.ext
  apply Array.ext'
  simp [txt]
theorem nil_txt (s : ByteArray) : txt [] ++ s = s := by
  rw [← txt_list s, ← txt_append, List.nil_append]
theorem txt_nil : txt [] = ⟨#[]⟩ := rfl
/-- What put leaves, whoever is there. -/
theorem rput_any (L : List Fi) (hsL : Srt L) (f : Fi) (hlen : L.length < 1000000) : ∃ L', Srt L' ∧ (fput L f).Perm L' ∧ ∀ (w : World) (x : Nat) (rb : Option Nat) (cap : Nat) (st : St), RefD w x rb cap st → st.files = L → St.Small { st with files := L' } →
    Calls Try.prog 80 #[.pointer (some ⟨x, 0, none⟩), .agg #[.string f.name, .string (txt f.bytes), .int .i64 (f.synced : Int)]] w fun e w' => e = .returned (.tuple #[]) ∧ RDT w x (rfoot x rb) { st with files := L' } w' := by
  obtain ⟨k, hp⟩ := place_ex L f.name
  cases hg : fget L f.name with
  | none =>
    obtain ⟨h1, h2⟩ := hp.put_new hsL hg (f := f) rfl
    refine ⟨_, h1, h2, fun w x rb cap st h hf hsm => ?_⟩
    subst hf
    exact rput_new h f k hp hg h1 hsm hlen
  | some g =>
    obtain ⟨h1, h2⟩ := hp.put_old hsL hg (f := f) rfl
    refine ⟨_, h1, List.Perm.of_eq h2, fun w x rb cap st h hf hsm => ?_⟩
    subst hf
    exact rput_old h f k hp hg h1 hsm hlen
/-- What a deed leaves, up to the order of the files. -/
def RLike (w : World) (x : Nat) (F : Nat → Prop) (st : St) (w' : World) : Prop := ∃ st', St.Like st st' ∧ RDT w x F st' w'
section
variable {w W : World} {x : Nat} {rb : Option Nat} {cap : Nat} {st : St}
theorem used_quiet (h : RefD w x rb cap st) (hlen : st.files.length < 1000000) (q : Nat) : Calls Try.prog 78 #[.pointer (some ⟨x, 0, none⟩)] (w.drewN q) fun e w' => e = .returned (.int .i64 (ftotal st.files : Nat)) ∧ w' = w.drewN q := by
  have h2 : RefD (w.drewN q) x rb cap st := h.kept fun _ _ => rfl
  exact (rused_c h2 hlen).mono fun e w' hx => ⟨hx.1, hx.2.symm⟩
end
end Go.Proofs.Ytmjeanbbhacnaaa
namespace Go.Proofs.Ytmjeanbbhacnaaa
open Go.RowKit
attribute [local go_sem ↓] Go.wp_at_zero Go.wp_at_succ
section
variable {w W : World} {x : Nat} {rb : Option Nat} {cap : Nat} {st : St}
set_option maxRecDepth 100000 in
set_option maxHeartbeats 3200000 in
theorem rapp_ok_some (h : RefD w x rb cap st) (n s : ByteArray) (hd : st.dead = false) (ha : st.after ≠ 0) (hs : (s.size : Int) ≤ 281474976710656) (hfit : (ftotal st.files : Int) + s.size ≤ st.room) {g : Fi} (hg : fget st.files n = some g) (hlen : st.files.length < 1000000) :
    Calls Try.prog 56 #[.pointer (some ⟨x, 0, none⟩), .string n, .string s] w fun e w' => e = .returned (.int .i64 0) ∧ RLike w x (rfoot x rb) { stepSt st with files := flay st.files n s.data.toList } w' := by
  obtain ⟨k, hp⟩ := place_ex st.files n
  obtain ⟨hk, hgk, hgn⟩ := hp.yes h.srt hg
  obtain ⟨L', hsL, hperm, hput⟩ := rput_any st.files h.srt ⟨n, g.bytes ++ s.data.toList, g.synced⟩ hlen
  have hflay : flay st.files n s.data.toList = fput st.files ⟨n, g.bytes ++ s.data.toList, g.synced⟩ := by unfold flay; rw [hg]
  have hc := rcrash_go h hd ha
  have Hc := Lib.hid hc
  obtain ⟨t, ht⟩ : ∃ t, t = ftotal st.files := ⟨_, rfl⟩
  obtain ⟨r, hr⟩ : ∃ r, r = st.room := ⟨_, rfl⟩
  have hrb : r ≤ 1099511627776 := by rw [hr]; exact h.small.room
  have htb : (t : Int) ≤ 1099511627776 := by have := h.small.total; omega
  have ht0 : (0 : Int) ≤ (t : Int) := by omega
  rw [← ht, ← hr] at hfit
  have hsb : (s.size : Int) ≤ 1099511627776 := by omega
  obtain ⟨m, hm⟩ : ∃ m, m = st.files.length := ⟨_, rfl⟩
  have hkm : (k : Int) ≤ (m : Int) := by have := hp.le; omega
  have hk0 : (0 : Int) ≤ (k : Int) := by omega
  have hmI : (m : Int) ≤ 1000000 := by omega
  have hkm1 : (k : Int) < (m : Int) := by omega
  have hgb : (g.bytes.length : Int) ≤ 1099511627776 := by
    have h1 := ftotal_take hk
    have h2 := ftotal_take_le st.files (k + 1)
    have h3 := h.small.total
    rw [hgk] at h1
    omega
  have H := Lib.hid (And.intro h (And.intro hp (And.intro hg (And.intro hlen (And.intro ht (And.intro hr (And.intro hm (And.intro hsL (And.intro hperm (And.intro hput (And.intro hflay (And.intro hk (And.intro hgk hgn)))))))))))))
  clear h hp hg hlen ht hr hm hsL hperm hput hflay hgk hgn hc hd ha
  go_enter Try.func56, Try.ntmps56
  go_wp2_with fail
  refine Hc.out.mono ?_
  rintro e w1 ⟨rfl, h1, hE1⟩
  obtain ⟨h, hp, hg, hlen, ht, hr, hm, hsL, hperm, hput, hflay, hk_, hgk, hgn⟩ := H.out
  have hu : ∀ q, Calls Try.prog 78 #[.pointer (some ⟨x, 0, none⟩)] (w1.drewN q) fun e w' => e = .returned (.int .i64 (t : Nat)) ∧ w' = w1.drewN q := by rw [ht]; exact fun q => used_quiet h1 hlen q
  have c1 := h1.cell.2.1
  rw [show (stepSt st).room = r from hr.symm] at c1
  have Hu := Lib.hid hu
  have H1 := Lib.hid (And.intro h1 hE1)
  clear h hp hg hlen ht hr hm hsL hperm hput hflay hgk hgn hu h1 hE1
  go_upto_region 4 with fail
  go_quiet ((go_at_call 78; exact Calls.quiet_of_same (Hu.out _)))
  rename_i nq
  obtain ⟨wx, hwx⟩ : ∃ wx, wx = w1.drewN nq := ⟨_, rfl⟩
  rw [← hwx]
  have hbx : Below w1.heap.size w1 wx := by rw [hwx]; exact ⟨rfl, rfl, rfl, Nat.le_refl _, fun _ _ => rfl⟩
  have hx := H1.out.1.below hbx
  have hfind := rfind_c hx n k H.out.2.1 H.out.2.2.2.1
  rw [show fget (stepSt st).files n = some g from H.out.2.2.1] at hfind
  have Hf : Hid (Calls Try.prog 79 #[.pointer (some ⟨x, 0, none⟩), .string n] wx fun e w' => e = .returned (.tuple #[.int .i64 (k : Int), .bool true]) ∧ Below wx.heap.size wx w') := Lib.hid hfind
  have HX := Lib.hid (And.intro hx hbx)
  clear hx hfind hbx hwx c1
  go_wp2_with fail
  refine Hf.out.mono ?_
  rintro e w2 ⟨rfl, hb2⟩
  have h2 := HX.out.1.below hb2
  obtain ⟨V, hV⟩ : ∃ V, V = w2.alloc (.cells #[.string n, .string ⟨#[]⟩, .int .i64 0] 91 (0, 0)) := ⟨_, rfl⟩
  have hbV : Below w2.heap.size w2 V := by rw [hV]; exact (Below.refl _ _).alloc (Nat.le_refl _) _
  have oV : V.heap[w2.heap.size]? = some (.cells #[.string n, .string ⟨#[]⟩, .int .i64 0] 91 (0, 0)) := by rw [hV]; exact heap_alloc_new _ _
  obtain ⟨b, rfl, hbl, q0', q1', q2', qf⟩ := h2.file k hk
  have hgk2 : st.files[k] = g := by obtain ⟨h, hp, hg, hlen, ht, hr, hm, hsL, hperm, hput, hflay, hk, hgk, hgn⟩ := H.out; exact hgk
  have hkV : ∀ o, V.cell? ⟨b, o, none⟩ = w2.cell? ⟨b, o, none⟩ := fun o => World.cell?_of_block (a := ⟨b, o, none⟩) (hbV.block b hbl)
  have q0 : V.cell? ⟨b, k * 3, none⟩ = some (.string g.name) := by rw [hkV, ← hgk2]; exact q0'
  have q1 : V.cell? ⟨b, k * 3 + 1, none⟩ = some (.string (txt g.bytes)) := by rw [hkV, ← hgk2]; exact q1'
  have q2 : V.cell? ⟨b, k * 3 + 2, none⟩ = some (.int .i64 (g.synced : Int)) := by rw [hkV, ← hgk2]; exact q2'
  have dV := (h2.below hbV).cell.1
  rw [show (stepSt st).files.length = m from H.out.2.2.2.2.2.2.1.symm] at dV
  obtain ⟨P, hP⟩ : ∃ P, P = w2.heap.size := ⟨_, rfl⟩
  rw [← hP] at oV
  have a0 : V.cell? ⟨P, 0, none⟩ = some (.string n) := by rw [cell_of_row _ _ _ _ _ _ oV]; rfl
  have a1 : V.cell? ⟨P, 1, none⟩ = some (.string ⟨#[]⟩) := by rw [cell_of_row _ _ _ _ _ _ oV]; rfl
  have a2 : V.cell? ⟨P, 2, none⟩ = some (.int .i64 0) := by rw [cell_of_row _ _ _ _ _ _ oV]; rfl
  have af0 := frozen_of_row V P 0 _ _ oV
  have af1 := frozen_of_row V P 1 _ _ oV
  have af2 := frozen_of_row V P 2 _ _ oV
  obtain ⟨S0, hS0⟩ : ∃ S0, S0 = txt g.bytes := ⟨_, rfl⟩
  rw [← hS0] at q1
  have hS0s : (S0.size : Int) ≤ 1099511627776 := by rw [hS0, txt_size]; exact hgb
  obtain ⟨V1, hV1⟩ : ∃ V1, V1 = ((V.setCell ⟨P, 0, none⟩ (.string g.name)).setCell ⟨P, 1, none⟩ (.string S0)).setCell ⟨P, 2, none⟩ (.int .i64 (g.synced : Int)) := ⟨_, rfl⟩
  have oV1 : V1.heap[P]? = some (.cells #[.string g.name, .string S0, .int .i64 (g.synced : Int)] 91 (0, 0)) := by rw [hV1, setCell_block _ (setCell_block _ (setCell_block _ oV))]; rfl
  have hbV1 : Below w2.heap.size w2 V1 := by rw [hV1]; exact ((hbV.setCell (p := ⟨P, 0, none⟩) (Nat.le_of_eq hP.symm) _).setCell (p := ⟨P, 1, none⟩) (Nat.le_of_eq hP.symm) _).setCell (p := ⟨P, 2, none⟩) (Nat.le_of_eq hP.symm) _
  have hgn : g.name = n := by obtain ⟨h, hp, hg, hlen, ht, hr, hm, hsL, hperm, hput, hflay, hk, hgk, hgn⟩ := H.out; exact hgn
  rw [hgn] at oV1
  have hsy : True := by obtain ⟨h, hp, hg, hlen, ht, hr, hm, hsL, hperm, hput, hflay, hk, hgk, hgn⟩ := H.out; exact trivial
  have b0 : V1.cell? ⟨P, 0, none⟩ = some (.string n) := by rw [cell_of_row _ _ _ _ _ _ oV1]; rfl
  have b1 : V1.cell? ⟨P, 1, none⟩ = some (.string S0) := by rw [cell_of_row _ _ _ _ _ _ oV1]; rfl
  have b2 : V1.cell? ⟨P, 2, none⟩ = some (.int .i64 (g.synced : Int)) := by rw [cell_of_row _ _ _ _ _ _ oV1]; rfl
  have bf1 := frozen_of_row V1 P 1 _ _ oV1
  have H2 := Lib.hid (And.intro h2 (And.intro hb2 (And.intro hbV1 (And.intro oV1 (And.intro hP hS0)))))
  have HV := Lib.hid hV
  have HV1 := Lib.hid hV1
  clear h2 hb2 hbV oV hP hV hS0 hbV1 oV1 hV1 hbl q0' q1' q2' hgk2 qf hkV hgn hsy
  go_upto_region 10 with fail
  rw [← HV.out, ← H2.out.2.2.2.2.1]
  go_upto_region 12 with fail
  rw [← HV1.out]
  clear a0 a1 a2 af0 af1 af2 q0 q1 q2 dV
  obtain ⟨S1, hS1⟩ : ∃ S1, S1 = S0 ++ s := ⟨_, rfl⟩
  obtain ⟨V2, hV2⟩ : ∃ V2, V2 = V1.setCell ⟨P, 1, none⟩ (.string S1) := ⟨_, rfl⟩
  have oV2 : V2.heap[P]? = some (.cells #[.string n, .string S1, .int .i64 (g.synced : Int)] 91 (0, 0)) := by rw [hV2, setCell_block _ H2.out.2.2.2.1]; rfl
  have g0 : V2.cell? ⟨P, 0, none⟩ = some (.string n) := by rw [cell_of_row _ _ _ _ _ _ oV2]; rfl
  have g1 : V2.cell? ⟨P, 1, none⟩ = some (.string S1) := by rw [cell_of_row _ _ _ _ _ _ oV2]; rfl
  have g2 : V2.cell? ⟨P, 2, none⟩ = some (.int .i64 (g.synced : Int)) := by rw [cell_of_row _ _ _ _ _ _ oV2]; rfl
  have HV2 := Lib.hid (And.intro hV2 hS1)
  have hfinish : ∀ V3 : World, V3.heap = V2.heap → V3.os = V2.os → V3.tape = V2.tape → V3.output = V2.output → Calls Try.prog 80 #[.pointer (some ⟨x, 0, none⟩), .agg #[.string n, .string S1, .int .i64 (g.synced : Int)]] V3 fun e w' => e = .returned (.tuple #[]) ∧ RLike w x (rfoot x (some b)) { stepSt st with files := flay st.files n s.data.toList } w' := fun V3 e1 e2 e3 e4 => by
    obtain ⟨h, hp, hg, hlen, ht, hr, hm, hsL, hperm, hput, hflay, hk, hgk, hgn⟩ := H.out
    obtain ⟨h2, hb2, hbV1, oV1, hP, hS0⟩ := H2.out
    have hbV2 : Below w2.heap.size w2 V2 := by rw [hV2]; exact hbV1.setCell (p := ⟨P, 1, none⟩) (Nat.le_of_eq hP.symm) _
    have hbV3 : Below w2.heap.size w2 V3 := ⟨e2.trans hbV2.os, e3.trans hbV2.tape, e4.trans hbV2.output, by rw [e1]; exact hbV2.size, fun k hk => by rw [e1]; exact hbV2.block k hk⟩
    have hbw : Below w1.heap.size w1 V3 := (HX.out.2.trans (hb2.mono HX.out.2.size)).trans (hbV3.mono (Nat.le_trans HX.out.2.size hb2.size))
    have happ : txt s.data.toList = s := txt_list s
    have htx : txt (g.bytes ++ s.data.toList) = S1 := by
      rw [txt_append, hS1, hS0, happ]
    have hsm : St.Small { (stepSt st) with files := L' } := by
      have hh := H1.out.1.small
      refine ⟨?_, hh.room, hh.after⟩
      show ftotal L' ≤ _
      rw [← ftotal_perm hperm, ← hflay, ftotal_lay h.srt.named]
      have h9 := h.small.room
      have h8 : s.data.toList.length ≤ s.size := by simp
      omega
    have hp2 := hput V3 x (some b) cap (stepSt st) (H1.out.1.below hbw) rfl hsm
    rw [show txt (⟨n, g.bytes ++ s.data.toList, g.synced⟩ : Fi).bytes = S1 from htx] at hp2
    refine hp2.mono ?_
    rintro e w' ⟨he, F', hF', hE⟩
    exact ⟨he, { (stepSt st) with files := L' }, ⟨by show (flay _ _ _).Perm L'; rw [hflay]; exact hperm, rfl, rfl, rfl, rfl⟩, F', hF', H1.out.2.trans ((Eff.below hbw).trans hE)⟩
  have HF := Lib.hid hfinish
  clear hV2 hS1 oV2 hfinish
  go_upto_region 19 with fail
  rw [← HV2.out.2, ← HV2.out.1]
  go_wp2_with fail
  refine (HF.out V2 rfl rfl rfl rfl).mono ?_
  rintro e w5 ⟨rfl, h5⟩
  have H5 := Lib.hid h5
  clear h5
  go_wp2_with fail
  go_ret
  exact ⟨rfl, H5.out⟩
set_option maxRecDepth 100000 in
set_option maxHeartbeats 3200000 in
theorem rapp_ok_none (h : RefD w x rb cap st) (n s : ByteArray) (hd : st.dead = false) (ha : st.after ≠ 0) (hs : (s.size : Int) ≤ 281474976710656) (hfit : (ftotal st.files : Int) + s.size ≤ st.room) (hg : fget st.files n = none) (hlen : st.files.length < 1000000) :
    Calls Try.prog 56 #[.pointer (some ⟨x, 0, none⟩), .string n, .string s] w fun e w' => e = .returned (.int .i64 0) ∧ RLike w x (rfoot x rb) { stepSt st with files := flay st.files n s.data.toList } w' := by
  obtain ⟨k, hp⟩ := place_ex st.files n
  obtain ⟨L', hsL, hperm, hput⟩ := rput_any st.files h.srt ⟨n, s.data.toList, 0⟩ hlen
  have hflay : flay st.files n s.data.toList = fput st.files ⟨n, s.data.toList, 0⟩ := by unfold flay; rw [hg]
  have hc := rcrash_go h hd ha
  have Hc := Lib.hid hc
  obtain ⟨t, ht⟩ : ∃ t, t = ftotal st.files := ⟨_, rfl⟩
  obtain ⟨r, hr⟩ : ∃ r, r = st.room := ⟨_, rfl⟩
  have hrb : r ≤ 1099511627776 := by rw [hr]; exact h.small.room
  have htb : (t : Int) ≤ 1099511627776 := by have := h.small.total; omega
  have ht0 : (0 : Int) ≤ (t : Int) := by omega
  rw [← ht, ← hr] at hfit
  have hsb : (s.size : Int) ≤ 1099511627776 := by omega
  obtain ⟨m, hm⟩ : ∃ m, m = st.files.length := ⟨_, rfl⟩
  have hkm : (k : Int) ≤ (m : Int) := by have := hp.le; omega
  have hk0 : (0 : Int) ≤ (k : Int) := by omega
  have hmI : (m : Int) ≤ 1000000 := by omega
  have H := Lib.hid (And.intro h (And.intro hp (And.intro hg (And.intro hlen (And.intro ht (And.intro hr (And.intro hm (And.intro hsL (And.intro hperm (And.intro hput hflay))))))))))
  clear h hp hg hlen ht hr hm hsL hperm hput hflay hc hd ha
  go_enter Try.func56, Try.ntmps56
  go_wp2_with fail
  refine Hc.out.mono ?_
  rintro e w1 ⟨rfl, h1, hE1⟩
  obtain ⟨h, hp, hg, hlen, ht, hr, hm, hsL, hperm, hput, hflay⟩ := H.out
  have hu : ∀ q, Calls Try.prog 78 #[.pointer (some ⟨x, 0, none⟩)] (w1.drewN q) fun e w' => e = .returned (.int .i64 (t : Nat)) ∧ w' = w1.drewN q := by rw [ht]; exact fun q => used_quiet h1 hlen q
  have c1 := h1.cell.2.1
  rw [show (stepSt st).room = r from hr.symm] at c1
  have Hu := Lib.hid hu
  have H1 := Lib.hid (And.intro h1 hE1)
  clear h hp hg hlen ht hr hm hsL hperm hput hflay hu h1 hE1
  go_upto_region 4 with fail
  go_quiet ((go_at_call 78; exact Calls.quiet_of_same (Hu.out _)))
  rename_i nq
  obtain ⟨wx, hwx⟩ : ∃ wx, wx = w1.drewN nq := ⟨_, rfl⟩
  rw [← hwx]
  have hbx : Below w1.heap.size w1 wx := by rw [hwx]; exact ⟨rfl, rfl, rfl, Nat.le_refl _, fun _ _ => rfl⟩
  have hx := H1.out.1.below hbx
  have hfind := rfind_c hx n k H.out.2.1 H.out.2.2.2.1
  rw [show fget (stepSt st).files n = none from H.out.2.2.1] at hfind
  have Hf : Hid (Calls Try.prog 79 #[.pointer (some ⟨x, 0, none⟩), .string n] wx fun e w' => e = .returned (.tuple #[.int .i64 (k : Int), .bool false]) ∧ Below wx.heap.size wx w') := Lib.hid hfind
  have HX := Lib.hid (And.intro hx hbx)
  clear hx hfind hbx hwx c1
  go_wp2_with fail
  refine Hf.out.mono ?_
  rintro e w2 ⟨rfl, hb2⟩
  have h2 := HX.out.1.below hb2
  obtain ⟨V, hV⟩ : ∃ V, V = w2.alloc (.cells #[.string n, .string ⟨#[]⟩, .int .i64 0] 91 (0, 0)) := ⟨_, rfl⟩
  have hbV : Below w2.heap.size w2 V := by rw [hV]; exact (Below.refl _ _).alloc (Nat.le_refl _) _
  have oV : V.heap[w2.heap.size]? = some (.cells #[.string n, .string ⟨#[]⟩, .int .i64 0] 91 (0, 0)) := by rw [hV]; exact heap_alloc_new _ _
  obtain ⟨P, hP⟩ : ∃ P, P = w2.heap.size := ⟨_, rfl⟩
  rw [← hP] at oV
  obtain ⟨S0, hS0⟩ : ∃ S0 : ByteArray, S0 = ⟨#[]⟩ := ⟨_, rfl⟩
  have hS0s : (S0.size : Int) ≤ 1099511627776 := by rw [hS0]; decide
  obtain ⟨V1, hV1⟩ : ∃ V1, V1 = V := ⟨_, rfl⟩
  have oV1 : V1.heap[P]? = some (.cells #[.string n, .string S0, .int .i64 (0 : Int)] 91 (0, 0)) := by rw [hV1, hS0]; exact oV
  have hbV1 : Below w2.heap.size w2 V1 := by rw [hV1]; exact hbV
  have b0 : V1.cell? ⟨P, 0, none⟩ = some (.string n) := by rw [cell_of_row _ _ _ _ _ _ oV1]; rfl
  have b1 : V1.cell? ⟨P, 1, none⟩ = some (.string S0) := by rw [cell_of_row _ _ _ _ _ _ oV1]; rfl
  have b2 : V1.cell? ⟨P, 2, none⟩ = some (.int .i64 (0 : Int)) := by rw [cell_of_row _ _ _ _ _ _ oV1]; rfl
  have bf1 := frozen_of_row V1 P 1 _ _ oV1
  have H2 := Lib.hid (And.intro h2 (And.intro hb2 (And.intro hbV1 (And.intro oV1 (And.intro hP hS0)))))
  have HV := Lib.hid hV
  have HV1 := Lib.hid hV1
  clear h2 hb2 hbV oV hP hV hS0 hbV1 oV1 hV1
  go_upto_region 12 with fail
  rw [← HV.out, ← HV1.out, ← H2.out.2.2.2.2.1]
  obtain ⟨S1, hS1⟩ : ∃ S1, S1 = S0 ++ s := ⟨_, rfl⟩
  obtain ⟨V2, hV2⟩ : ∃ V2, V2 = V1.setCell ⟨P, 1, none⟩ (.string S1) := ⟨_, rfl⟩
  have oV2 : V2.heap[P]? = some (.cells #[.string n, .string S1, .int .i64 (0 : Int)] 91 (0, 0)) := by rw [hV2, setCell_block _ H2.out.2.2.2.1]; rfl
  have g0 : V2.cell? ⟨P, 0, none⟩ = some (.string n) := by rw [cell_of_row _ _ _ _ _ _ oV2]; rfl
  have g1 : V2.cell? ⟨P, 1, none⟩ = some (.string S1) := by rw [cell_of_row _ _ _ _ _ _ oV2]; rfl
  have g2 : V2.cell? ⟨P, 2, none⟩ = some (.int .i64 (0 : Int)) := by rw [cell_of_row _ _ _ _ _ _ oV2]; rfl
  have HV2 := Lib.hid (And.intro hV2 hS1)
  have hfinish : ∀ V3 : World, V3.heap = V2.heap → V3.os = V2.os → V3.tape = V2.tape → V3.output = V2.output → Calls Try.prog 80 #[.pointer (some ⟨x, 0, none⟩), .agg #[.string n, .string S1, .int .i64 (0 : Int)]] V3 fun e w' => e = .returned (.tuple #[]) ∧ RLike w x (rfoot x rb) { stepSt st with files := flay st.files n s.data.toList } w' := fun V3 e1 e2 e3 e4 => by
    obtain ⟨h, hp, hg, hlen, ht, hr, hm, hsL, hperm, hput, hflay⟩ := H.out
    obtain ⟨h2, hb2, hbV1, oV1, hP, hS0⟩ := H2.out
    have hbV2 : Below w2.heap.size w2 V2 := by rw [hV2]; exact hbV1.setCell (p := ⟨P, 1, none⟩) (Nat.le_of_eq hP.symm) _
    have hbV3 : Below w2.heap.size w2 V3 := ⟨e2.trans hbV2.os, e3.trans hbV2.tape, e4.trans hbV2.output, by rw [e1]; exact hbV2.size, fun k hk => by rw [e1]; exact hbV2.block k hk⟩
    have hbw : Below w1.heap.size w1 V3 := (HX.out.2.trans (hb2.mono HX.out.2.size)).trans (hbV3.mono (Nat.le_trans HX.out.2.size hb2.size))
    have happ : txt s.data.toList = s := txt_list s
    have htx : txt (s.data.toList) = S1 := by
      rw [hS1, hS0, happ, ← txt_nil, nil_txt]
    have hsm : St.Small { (stepSt st) with files := L' } := by
      have hh := H1.out.1.small
      refine ⟨?_, hh.room, hh.after⟩
      show ftotal L' ≤ _
      rw [← ftotal_perm hperm, ← hflay, ftotal_lay h.srt.named]
      have h9 := h.small.room
      have h8 : s.data.toList.length ≤ s.size := by simp
      omega
    have hp2 := hput V3 x rb cap (stepSt st) (H1.out.1.below hbw) rfl hsm
    rw [show txt (⟨n, s.data.toList, 0⟩ : Fi).bytes = S1 from htx] at hp2
    refine hp2.mono ?_
    rintro e w' ⟨he, F', hF', hE⟩
    exact ⟨he, { (stepSt st) with files := L' }, ⟨by show (flay _ _ _).Perm L'; rw [hflay]; exact hperm, rfl, rfl, rfl, rfl⟩, F', hF', H1.out.2.trans ((Eff.below hbw).trans hE)⟩
  have HF := Lib.hid hfinish
  clear hV2 hS1 oV2 hfinish
  go_upto_region 19 with fail
  rw [← HV2.out.2, ← HV2.out.1]
  go_wp2_with fail
  refine (HF.out V2 rfl rfl rfl rfl).mono ?_
  rintro e w5 ⟨rfl, h5⟩
  have H5 := Lib.hid h5
  clear h5
  go_wp2_with fail
  go_ret
  exact ⟨rfl, H5.out⟩
set_option maxRecDepth 100000 in
set_option maxHeartbeats 3200000 in
theorem rapp_no_some (h : RefD w x rb cap st) (n s : ByteArray) (hd : st.dead = false) (ha : st.after = 0) (hs : (s.size : Int) ≤ 281474976710656) (hfit : (ftotal st.files : Int) + s.size ≤ st.room) (K : Nat) (hK : (K : Int) = max (min st.torn s.size) 0) (hK0 : ¬ 0 < K) {g : Fi} (hg : fget st.files n = some g) (hlen : st.files.length < 1000000) :
    Calls Try.prog 56 #[.pointer (some ⟨x, 0, none⟩), .string n, .string s] w fun e w' => e = .returned (.int .i64 19) ∧ RLike w x (rfoot x rb) { st with dead := true } w' := by
  obtain ⟨k, hp⟩ := place_ex st.files n
  obtain ⟨hk, hgk, hgn⟩ := hp.yes h.srt hg
  have hc := rcrash_now h hd ha
  have Hc := Lib.hid hc
  obtain ⟨t, ht⟩ : ∃ t, t = ftotal st.files := ⟨_, rfl⟩
  obtain ⟨r, hr⟩ : ∃ r, r = st.room := ⟨_, rfl⟩
  have hrb : r ≤ 1099511627776 := by rw [hr]; exact h.small.room
  have htb : (t : Int) ≤ 1099511627776 := by have := h.small.total; omega
  have ht0 : (0 : Int) ≤ (t : Int) := by omega
  rw [← ht, ← hr] at hfit
  have hsb : (s.size : Int) ≤ 1099511627776 := by omega
  obtain ⟨m, hm⟩ : ∃ m, m = st.files.length := ⟨_, rfl⟩
  have hkm : (k : Int) ≤ (m : Int) := by have := hp.le; omega
  have hk0 : (0 : Int) ≤ (k : Int) := by omega
  have hmI : (m : Int) ≤ 1000000 := by omega
  have hkm1 : (k : Int) < (m : Int) := by omega
  have hgb : (g.bytes.length : Int) ≤ 1099511627776 := by
    have h1 := ftotal_take hk
    have h2 := ftotal_take_le st.files (k + 1)
    have h3 := h.small.total
    rw [hgk] at h1
    omega
  obtain ⟨tz, hto⟩ : ∃ tz, tz = st.torn := ⟨_, rfl⟩
  rw [← hto] at hK
  have hKs : (K : Int) ≤ (s.size : Int) := by omega
  have hKn : (0 : Int) ≤ (K : Int) := by omega
  have hKz : K = 0 := by omega
  subst hKz
  have hmx : max (min tz (s.size : Int)) 0 = 0 := by omega
  have H := Lib.hid (And.intro h (And.intro hp (And.intro hg (And.intro hlen (And.intro ht (And.intro hr (And.intro hm (And.intro hk (And.intro hgk (And.intro hgn hto))))))))))
  clear h hp hg hlen ht hr hm hgk hgn hto hK hc hd ha
  go_enter Try.func56, Try.ntmps56
  go_wp2_with fail
  refine Hc.out.mono ?_
  rintro e w1 ⟨rfl, h1, hE1⟩
  obtain ⟨h, hp, hg, hlen, ht, hr, hm, hk_, hgk, hgn, hto⟩ := H.out
  have hu : ∀ q, Calls Try.prog 78 #[.pointer (some ⟨x, 0, none⟩)] (w1.drewN q) fun e w' => e = .returned (.int .i64 (t : Nat)) ∧ w' = w1.drewN q := by rw [ht]; exact fun q => used_quiet h1 hlen q
  have c1 := h1.cell.2.1
  rw [show ({ st with dead := true } : St).room = r from hr.symm] at c1
  have Hu := Lib.hid hu
  have H1 := Lib.hid (And.intro h1 hE1)
  clear h hp hg hlen ht hr hm hgk hgn hto hu h1 hE1
  go_upto_region 4 with fail
  go_quiet ((go_at_call 78; exact Calls.quiet_of_same (Hu.out _)))
  rename_i nq
  obtain ⟨wx, hwx⟩ : ∃ wx, wx = w1.drewN nq := ⟨_, rfl⟩
  rw [← hwx]
  have hbx : Below w1.heap.size w1 wx := by rw [hwx]; exact ⟨rfl, rfl, rfl, Nat.le_refl _, fun _ _ => rfl⟩
  have hx := H1.out.1.below hbx
  have hfind := rfind_c hx n k H.out.2.1 H.out.2.2.2.1
  rw [show fget ({ st with dead := true } : St).files n = some g from H.out.2.2.1] at hfind
  have Hf : Hid (Calls Try.prog 79 #[.pointer (some ⟨x, 0, none⟩), .string n] wx fun e w' => e = .returned (.tuple #[.int .i64 (k : Int), .bool true]) ∧ Below wx.heap.size wx w') := Lib.hid hfind
  have HX := Lib.hid (And.intro hx hbx)
  clear hx hfind hbx hwx c1
  go_wp2_with fail
  refine Hf.out.mono ?_
  rintro e w2 ⟨rfl, hb2⟩
  have h2 := HX.out.1.below hb2
  obtain ⟨V, hV⟩ : ∃ V, V = w2.alloc (.cells #[.string n, .string ⟨#[]⟩, .int .i64 0] 91 (0, 0)) := ⟨_, rfl⟩
  have hbV : Below w2.heap.size w2 V := by rw [hV]; exact (Below.refl _ _).alloc (Nat.le_refl _) _
  have oV : V.heap[w2.heap.size]? = some (.cells #[.string n, .string ⟨#[]⟩, .int .i64 0] 91 (0, 0)) := by rw [hV]; exact heap_alloc_new _ _
  obtain ⟨b, rfl, hbl, q0', q1', q2', qf⟩ := h2.file k hk
  have hgk2 : st.files[k] = g := by obtain ⟨h, hp, hg, hlen, ht, hr, hm, hk, hgk, hgn, hto⟩ := H.out; exact hgk
  have hkV : ∀ o, V.cell? ⟨b, o, none⟩ = w2.cell? ⟨b, o, none⟩ := fun o => World.cell?_of_block (a := ⟨b, o, none⟩) (hbV.block b hbl)
  have q0 : V.cell? ⟨b, k * 3, none⟩ = some (.string g.name) := by rw [hkV, ← hgk2]; exact q0'
  have q1 : V.cell? ⟨b, k * 3 + 1, none⟩ = some (.string (txt g.bytes)) := by rw [hkV, ← hgk2]; exact q1'
  have q2 : V.cell? ⟨b, k * 3 + 2, none⟩ = some (.int .i64 (g.synced : Int)) := by rw [hkV, ← hgk2]; exact q2'
  have dV := (h2.below hbV).cell.1
  rw [show ({ st with dead := true } : St).files.length = m from H.out.2.2.2.2.2.2.1.symm] at dV
  obtain ⟨P, hP⟩ : ∃ P, P = w2.heap.size := ⟨_, rfl⟩
  rw [← hP] at oV
  have a0 : V.cell? ⟨P, 0, none⟩ = some (.string n) := by rw [cell_of_row _ _ _ _ _ _ oV]; rfl
  have a1 : V.cell? ⟨P, 1, none⟩ = some (.string ⟨#[]⟩) := by rw [cell_of_row _ _ _ _ _ _ oV]; rfl
  have a2 : V.cell? ⟨P, 2, none⟩ = some (.int .i64 0) := by rw [cell_of_row _ _ _ _ _ _ oV]; rfl
  have af0 := frozen_of_row V P 0 _ _ oV
  have af1 := frozen_of_row V P 1 _ _ oV
  have af2 := frozen_of_row V P 2 _ _ oV
  obtain ⟨S0, hS0⟩ : ∃ S0, S0 = txt g.bytes := ⟨_, rfl⟩
  rw [← hS0] at q1
  have hS0s : (S0.size : Int) ≤ 1099511627776 := by rw [hS0, txt_size]; exact hgb
  obtain ⟨V1, hV1⟩ : ∃ V1, V1 = ((V.setCell ⟨P, 0, none⟩ (.string g.name)).setCell ⟨P, 1, none⟩ (.string S0)).setCell ⟨P, 2, none⟩ (.int .i64 (g.synced : Int)) := ⟨_, rfl⟩
  have oV1 : V1.heap[P]? = some (.cells #[.string g.name, .string S0, .int .i64 (g.synced : Int)] 91 (0, 0)) := by rw [hV1, setCell_block _ (setCell_block _ (setCell_block _ oV))]; rfl
  have hbV1 : Below w2.heap.size w2 V1 := by rw [hV1]; exact ((hbV.setCell (p := ⟨P, 0, none⟩) (Nat.le_of_eq hP.symm) _).setCell (p := ⟨P, 1, none⟩) (Nat.le_of_eq hP.symm) _).setCell (p := ⟨P, 2, none⟩) (Nat.le_of_eq hP.symm) _
  have hgn : g.name = n := by obtain ⟨h, hp, hg, hlen, ht, hr, hm, hk, hgk, hgn, hto⟩ := H.out; exact hgn
  rw [hgn] at oV1
  have hsy : True := by obtain ⟨h, hp, hg, hlen, ht, hr, hm, hk, hgk, hgn, hto⟩ := H.out; exact trivial
  have b0 : V1.cell? ⟨P, 0, none⟩ = some (.string n) := by rw [cell_of_row _ _ _ _ _ _ oV1]; rfl
  have b1 : V1.cell? ⟨P, 1, none⟩ = some (.string S0) := by rw [cell_of_row _ _ _ _ _ _ oV1]; rfl
  have b2 : V1.cell? ⟨P, 2, none⟩ = some (.int .i64 (g.synced : Int)) := by rw [cell_of_row _ _ _ _ _ _ oV1]; rfl
  have bf1 := frozen_of_row V1 P 1 _ _ oV1
  have H2 := Lib.hid (And.intro h2 (And.intro hb2 (And.intro hbV1 (And.intro oV1 (And.intro hP hS0)))))
  have HV := Lib.hid hV
  have HV1 := Lib.hid hV1
  have eT : V1.cell? ⟨x, 3, none⟩ = some (.int .i64 tz) := by have h3 := (h2.below hbV1).cell.2.2.2.1; rw [show ({ st with dead := true } : St).torn = tz from (by obtain ⟨h, hp, hg, hlen, ht, hr, hm, hk, hgk, hgn, hto⟩ := H.out; exact hto.symm)] at h3; exact h3
  clear h2 hb2 hbV oV hP hV hS0 hbV1 oV1 hV1 hbl q0' q1' q2' hgk2 qf hkV hgn hsy
  go_upto_region 10 with fail
  rw [← HV.out, ← H2.out.2.2.2.2.1]
  go_upto_region 12 with fail
  rw [← HV1.out]
  clear a0 a1 a2 af0 af1 af2 q0 q1 q2 dV
  go_wp2_with fail
  go_ret
  obtain ⟨h2, hb2, hbV1, oV1, hP, hS0⟩ := H2.out
  have hbw : Below w1.heap.size w1 V1 := (HX.out.2.trans (hb2.mono HX.out.2.size)).trans (hbV1.mono (Nat.le_trans HX.out.2.size hb2.size))
  exact ⟨rfl, { st with dead := true }, ⟨List.Perm.refl _, rfl, rfl, rfl, rfl⟩, _, ⟨_, _, H1.out.1.below hbw, rfl⟩, H1.out.2.trans (Eff.below hbw)⟩
set_option maxRecDepth 100000 in
set_option maxHeartbeats 3200000 in
theorem rapp_no_none (h : RefD w x rb cap st) (n s : ByteArray) (hd : st.dead = false) (ha : st.after = 0) (hs : (s.size : Int) ≤ 281474976710656) (hfit : (ftotal st.files : Int) + s.size ≤ st.room) (K : Nat) (hK : (K : Int) = max (min st.torn s.size) 0) (hK0 : ¬ 0 < K) (hg : fget st.files n = none) (hlen : st.files.length < 1000000) :
    Calls Try.prog 56 #[.pointer (some ⟨x, 0, none⟩), .string n, .string s] w fun e w' => e = .returned (.int .i64 19) ∧ RLike w x (rfoot x rb) { st with dead := true } w' := by
  obtain ⟨k, hp⟩ := place_ex st.files n
  have hc := rcrash_now h hd ha
  have Hc := Lib.hid hc
  obtain ⟨t, ht⟩ : ∃ t, t = ftotal st.files := ⟨_, rfl⟩
  obtain ⟨r, hr⟩ : ∃ r, r = st.room := ⟨_, rfl⟩
  have hrb : r ≤ 1099511627776 := by rw [hr]; exact h.small.room
  have htb : (t : Int) ≤ 1099511627776 := by have := h.small.total; omega
  have ht0 : (0 : Int) ≤ (t : Int) := by omega
  rw [← ht, ← hr] at hfit
  have hsb : (s.size : Int) ≤ 1099511627776 := by omega
  obtain ⟨m, hm⟩ : ∃ m, m = st.files.length := ⟨_, rfl⟩
  have hkm : (k : Int) ≤ (m : Int) := by have := hp.le; omega
  have hk0 : (0 : Int) ≤ (k : Int) := by omega
  have hmI : (m : Int) ≤ 1000000 := by omega
  obtain ⟨tz, hto⟩ : ∃ tz, tz = st.torn := ⟨_, rfl⟩
  rw [← hto] at hK
  have hKs : (K : Int) ≤ (s.size : Int) := by omega
  have hKn : (0 : Int) ≤ (K : Int) := by omega
  have hKz : K = 0 := by omega
  subst hKz
  have hmx : max (min tz (s.size : Int)) 0 = 0 := by omega
  have H := Lib.hid (And.intro h (And.intro hp (And.intro hg (And.intro hlen (And.intro ht (And.intro hr (And.intro hm hto)))))))
  clear h hp hg hlen ht hr hm hto hK hc hd ha
  go_enter Try.func56, Try.ntmps56
  go_wp2_with fail
  refine Hc.out.mono ?_
  rintro e w1 ⟨rfl, h1, hE1⟩
  obtain ⟨h, hp, hg, hlen, ht, hr, hm, hto⟩ := H.out
  have hu : ∀ q, Calls Try.prog 78 #[.pointer (some ⟨x, 0, none⟩)] (w1.drewN q) fun e w' => e = .returned (.int .i64 (t : Nat)) ∧ w' = w1.drewN q := by rw [ht]; exact fun q => used_quiet h1 hlen q
  have c1 := h1.cell.2.1
  rw [show ({ st with dead := true } : St).room = r from hr.symm] at c1
  have Hu := Lib.hid hu
  have H1 := Lib.hid (And.intro h1 hE1)
  clear h hp hg hlen ht hr hm hto hu h1 hE1
  go_upto_region 4 with fail
  go_quiet ((go_at_call 78; exact Calls.quiet_of_same (Hu.out _)))
  rename_i nq
  obtain ⟨wx, hwx⟩ : ∃ wx, wx = w1.drewN nq := ⟨_, rfl⟩
  rw [← hwx]
  have hbx : Below w1.heap.size w1 wx := by rw [hwx]; exact ⟨rfl, rfl, rfl, Nat.le_refl _, fun _ _ => rfl⟩
  have hx := H1.out.1.below hbx
  have hfind := rfind_c hx n k H.out.2.1 H.out.2.2.2.1
  rw [show fget ({ st with dead := true } : St).files n = none from H.out.2.2.1] at hfind
  have Hf : Hid (Calls Try.prog 79 #[.pointer (some ⟨x, 0, none⟩), .string n] wx fun e w' => e = .returned (.tuple #[.int .i64 (k : Int), .bool false]) ∧ Below wx.heap.size wx w') := Lib.hid hfind
  have HX := Lib.hid (And.intro hx hbx)
  clear hx hfind hbx hwx c1
  go_wp2_with fail
  refine Hf.out.mono ?_
  rintro e w2 ⟨rfl, hb2⟩
  have h2 := HX.out.1.below hb2
  obtain ⟨V, hV⟩ : ∃ V, V = w2.alloc (.cells #[.string n, .string ⟨#[]⟩, .int .i64 0] 91 (0, 0)) := ⟨_, rfl⟩
  have hbV : Below w2.heap.size w2 V := by rw [hV]; exact (Below.refl _ _).alloc (Nat.le_refl _) _
  have oV : V.heap[w2.heap.size]? = some (.cells #[.string n, .string ⟨#[]⟩, .int .i64 0] 91 (0, 0)) := by rw [hV]; exact heap_alloc_new _ _
  obtain ⟨P, hP⟩ : ∃ P, P = w2.heap.size := ⟨_, rfl⟩
  rw [← hP] at oV
  obtain ⟨S0, hS0⟩ : ∃ S0 : ByteArray, S0 = ⟨#[]⟩ := ⟨_, rfl⟩
  have hS0s : (S0.size : Int) ≤ 1099511627776 := by rw [hS0]; decide
  obtain ⟨V1, hV1⟩ : ∃ V1, V1 = V := ⟨_, rfl⟩
  have oV1 : V1.heap[P]? = some (.cells #[.string n, .string S0, .int .i64 (0 : Int)] 91 (0, 0)) := by rw [hV1, hS0]; exact oV
  have hbV1 : Below w2.heap.size w2 V1 := by rw [hV1]; exact hbV
  have b0 : V1.cell? ⟨P, 0, none⟩ = some (.string n) := by rw [cell_of_row _ _ _ _ _ _ oV1]; rfl
  have b1 : V1.cell? ⟨P, 1, none⟩ = some (.string S0) := by rw [cell_of_row _ _ _ _ _ _ oV1]; rfl
  have b2 : V1.cell? ⟨P, 2, none⟩ = some (.int .i64 (0 : Int)) := by rw [cell_of_row _ _ _ _ _ _ oV1]; rfl
  have bf1 := frozen_of_row V1 P 1 _ _ oV1
  have H2 := Lib.hid (And.intro h2 (And.intro hb2 (And.intro hbV1 (And.intro oV1 (And.intro hP hS0)))))
  have HV := Lib.hid hV
  have HV1 := Lib.hid hV1
  have eT : V1.cell? ⟨x, 3, none⟩ = some (.int .i64 tz) := by have h3 := (h2.below hbV1).cell.2.2.2.1; rw [show ({ st with dead := true } : St).torn = tz from (by obtain ⟨h, hp, hg, hlen, ht, hr, hm, hto⟩ := H.out; exact hto.symm)] at h3; exact h3
  clear h2 hb2 hbV oV hP hV hS0 hbV1 oV1 hV1
  go_upto_region 12 with fail
  rw [← HV.out, ← HV1.out, ← H2.out.2.2.2.2.1]
  go_wp2_with fail
  go_ret
  obtain ⟨h2, hb2, hbV1, oV1, hP, hS0⟩ := H2.out
  have hbw : Below w1.heap.size w1 V1 := (HX.out.2.trans (hb2.mono HX.out.2.size)).trans (hbV1.mono (Nat.le_trans HX.out.2.size hb2.size))
  exact ⟨rfl, { st with dead := true }, ⟨List.Perm.refl _, rfl, rfl, rfl, rfl⟩, _, ⟨_, _, H1.out.1.below hbw, rfl⟩, H1.out.2.trans (Eff.below hbw)⟩
set_option maxRecDepth 100000 in
set_option maxHeartbeats 3200000 in
theorem rapp_lay_none (h : RefD w x rb cap st) (n s : ByteArray) (hd : st.dead = false) (ha : st.after = 0) (hs : (s.size : Int) ≤ 281474976710656) (hfit : (ftotal st.files : Int) + s.size ≤ st.room) (K : Nat) (hK : (K : Int) = max (min st.torn s.size) 0) (hK0 : 0 < K) (hg : fget st.files n = none) (hlen : st.files.length < 1000000) :
    Calls Try.prog 56 #[.pointer (some ⟨x, 0, none⟩), .string n, .string s] w fun e w' => e = .returned (.int .i64 19) ∧ RLike w x (rfoot x rb) { st with dead := true, files := flay st.files n (s.data.toList.take K) } w' := by
  obtain ⟨k, hp⟩ := place_ex st.files n
  obtain ⟨L', hsL, hperm, hput⟩ := rput_any st.files h.srt ⟨n, (s.data.toList.take K), 0⟩ hlen
  have hflay : flay st.files n (s.data.toList.take K) = fput st.files ⟨n, (s.data.toList.take K), 0⟩ := by unfold flay; rw [hg]
  have hc := rcrash_now h hd ha
  have Hc := Lib.hid hc
  obtain ⟨t, ht⟩ : ∃ t, t = ftotal st.files := ⟨_, rfl⟩
  obtain ⟨r, hr⟩ : ∃ r, r = st.room := ⟨_, rfl⟩
  have hrb : r ≤ 1099511627776 := by rw [hr]; exact h.small.room
  have htb : (t : Int) ≤ 1099511627776 := by have := h.small.total; omega
  have ht0 : (0 : Int) ≤ (t : Int) := by omega
  rw [← ht, ← hr] at hfit
  have hsb : (s.size : Int) ≤ 1099511627776 := by omega
  obtain ⟨m, hm⟩ : ∃ m, m = st.files.length := ⟨_, rfl⟩
  have hkm : (k : Int) ≤ (m : Int) := by have := hp.le; omega
  have hk0 : (0 : Int) ≤ (k : Int) := by omega
  have hmI : (m : Int) ≤ 1000000 := by omega
  obtain ⟨tz, hto⟩ : ∃ tz, tz = st.torn := ⟨_, rfl⟩
  rw [← hto] at hK
  have hKs : (K : Int) ≤ (s.size : Int) := by omega
  have hKn : (0 : Int) ≤ (K : Int) := by omega
  have hKp : (0 : Int) < (K : Int) := by omega
  have hmx : max (min tz (s.size : Int)) 0 = (K : Int) := hK.symm
  have H := Lib.hid (And.intro h (And.intro hp (And.intro hg (And.intro hlen (And.intro ht (And.intro hr (And.intro hm (And.intro hsL (And.intro hperm (And.intro hput (And.intro hflay hto)))))))))))
  clear h hp hg hlen ht hr hm hsL hperm hput hflay hto hK hc hd ha
  go_enter Try.func56, Try.ntmps56
  go_wp2_with fail
  refine Hc.out.mono ?_
  rintro e w1 ⟨rfl, h1, hE1⟩
  obtain ⟨h, hp, hg, hlen, ht, hr, hm, hsL, hperm, hput, hflay, hto⟩ := H.out
  have hu : ∀ q, Calls Try.prog 78 #[.pointer (some ⟨x, 0, none⟩)] (w1.drewN q) fun e w' => e = .returned (.int .i64 (t : Nat)) ∧ w' = w1.drewN q := by rw [ht]; exact fun q => used_quiet h1 hlen q
  have c1 := h1.cell.2.1
  rw [show ({ st with dead := true } : St).room = r from hr.symm] at c1
  have Hu := Lib.hid hu
  have H1 := Lib.hid (And.intro h1 hE1)
  clear h hp hg hlen ht hr hm hsL hperm hput hflay hto hu h1 hE1
  go_upto_region 4 with fail
  go_quiet ((go_at_call 78; exact Calls.quiet_of_same (Hu.out _)))
  rename_i nq
  obtain ⟨wx, hwx⟩ : ∃ wx, wx = w1.drewN nq := ⟨_, rfl⟩
  rw [← hwx]
  have hbx : Below w1.heap.size w1 wx := by rw [hwx]; exact ⟨rfl, rfl, rfl, Nat.le_refl _, fun _ _ => rfl⟩
  have hx := H1.out.1.below hbx
  have hfind := rfind_c hx n k H.out.2.1 H.out.2.2.2.1
  rw [show fget ({ st with dead := true } : St).files n = none from H.out.2.2.1] at hfind
  have Hf : Hid (Calls Try.prog 79 #[.pointer (some ⟨x, 0, none⟩), .string n] wx fun e w' => e = .returned (.tuple #[.int .i64 (k : Int), .bool false]) ∧ Below wx.heap.size wx w') := Lib.hid hfind
  have HX := Lib.hid (And.intro hx hbx)
  clear hx hfind hbx hwx c1
  go_wp2_with fail
  refine Hf.out.mono ?_
  rintro e w2 ⟨rfl, hb2⟩
  have h2 := HX.out.1.below hb2
  obtain ⟨V, hV⟩ : ∃ V, V = w2.alloc (.cells #[.string n, .string ⟨#[]⟩, .int .i64 0] 91 (0, 0)) := ⟨_, rfl⟩
  have hbV : Below w2.heap.size w2 V := by rw [hV]; exact (Below.refl _ _).alloc (Nat.le_refl _) _
  have oV : V.heap[w2.heap.size]? = some (.cells #[.string n, .string ⟨#[]⟩, .int .i64 0] 91 (0, 0)) := by rw [hV]; exact heap_alloc_new _ _
  obtain ⟨P, hP⟩ : ∃ P, P = w2.heap.size := ⟨_, rfl⟩
  rw [← hP] at oV
  obtain ⟨S0, hS0⟩ : ∃ S0 : ByteArray, S0 = ⟨#[]⟩ := ⟨_, rfl⟩
  have hS0s : (S0.size : Int) ≤ 1099511627776 := by rw [hS0]; decide
  obtain ⟨V1, hV1⟩ : ∃ V1, V1 = V := ⟨_, rfl⟩
  have oV1 : V1.heap[P]? = some (.cells #[.string n, .string S0, .int .i64 (0 : Int)] 91 (0, 0)) := by rw [hV1, hS0]; exact oV
  have hbV1 : Below w2.heap.size w2 V1 := by rw [hV1]; exact hbV
  have b0 : V1.cell? ⟨P, 0, none⟩ = some (.string n) := by rw [cell_of_row _ _ _ _ _ _ oV1]; rfl
  have b1 : V1.cell? ⟨P, 1, none⟩ = some (.string S0) := by rw [cell_of_row _ _ _ _ _ _ oV1]; rfl
  have b2 : V1.cell? ⟨P, 2, none⟩ = some (.int .i64 (0 : Int)) := by rw [cell_of_row _ _ _ _ _ _ oV1]; rfl
  have bf1 := frozen_of_row V1 P 1 _ _ oV1
  have H2 := Lib.hid (And.intro h2 (And.intro hb2 (And.intro hbV1 (And.intro oV1 (And.intro hP hS0)))))
  have HV := Lib.hid hV
  have HV1 := Lib.hid hV1
  have eT : V1.cell? ⟨x, 3, none⟩ = some (.int .i64 tz) := by have h3 := (h2.below hbV1).cell.2.2.2.1; rw [show ({ st with dead := true } : St).torn = tz from (by obtain ⟨h, hp, hg, hlen, ht, hr, hm, hsL, hperm, hput, hflay, hto⟩ := H.out; exact hto.symm)] at h3; exact h3
  clear h2 hb2 hbV oV hP hV hS0 hbV1 oV1 hV1
  go_upto_region 12 with fail
  rw [← HV.out, ← HV1.out, ← H2.out.2.2.2.2.1]
  obtain ⟨S1, hS1⟩ : ∃ S1, S1 = S0 ++ (s.extract 0 K) := ⟨_, rfl⟩
  obtain ⟨V2, hV2⟩ : ∃ V2, V2 = V1.setCell ⟨P, 1, none⟩ (.string S1) := ⟨_, rfl⟩
  have oV2 : V2.heap[P]? = some (.cells #[.string n, .string S1, .int .i64 (0 : Int)] 91 (0, 0)) := by rw [hV2, setCell_block _ H2.out.2.2.2.1]; rfl
  have g0 : V2.cell? ⟨P, 0, none⟩ = some (.string n) := by rw [cell_of_row _ _ _ _ _ _ oV2]; rfl
  have g1 : V2.cell? ⟨P, 1, none⟩ = some (.string S1) := by rw [cell_of_row _ _ _ _ _ _ oV2]; rfl
  have g2 : V2.cell? ⟨P, 2, none⟩ = some (.int .i64 (0 : Int)) := by rw [cell_of_row _ _ _ _ _ _ oV2]; rfl
  have HV2 := Lib.hid (And.intro hV2 hS1)
  have hfinish : ∀ V3 : World, V3.heap = V2.heap → V3.os = V2.os → V3.tape = V2.tape → V3.output = V2.output → Calls Try.prog 80 #[.pointer (some ⟨x, 0, none⟩), .agg #[.string n, .string S1, .int .i64 (0 : Int)]] V3 fun e w' => e = .returned (.tuple #[]) ∧ RLike w x (rfoot x rb) { st with dead := true, files := flay st.files n (s.data.toList.take K) } w' := fun V3 e1 e2 e3 e4 => by
    obtain ⟨h, hp, hg, hlen, ht, hr, hm, hsL, hperm, hput, hflay, hto⟩ := H.out
    obtain ⟨h2, hb2, hbV1, oV1, hP, hS0⟩ := H2.out
    have hbV2 : Below w2.heap.size w2 V2 := by rw [hV2]; exact hbV1.setCell (p := ⟨P, 1, none⟩) (Nat.le_of_eq hP.symm) _
    have hbV3 : Below w2.heap.size w2 V3 := ⟨e2.trans hbV2.os, e3.trans hbV2.tape, e4.trans hbV2.output, by rw [e1]; exact hbV2.size, fun k hk => by rw [e1]; exact hbV2.block k hk⟩
    have hbw : Below w1.heap.size w1 V3 := (HX.out.2.trans (hb2.mono HX.out.2.size)).trans (hbV3.mono (Nat.le_trans HX.out.2.size hb2.size))
    have happ : txt (s.data.toList.take K) = (s.extract 0 K) := txt_take s K
    have htx : txt ((s.data.toList.take K)) = S1 := by
      rw [hS1, hS0, happ, ← txt_nil, nil_txt]
    have hsm : St.Small { ({ st with dead := true } : St) with files := L' } := by
      have hh := H1.out.1.small
      refine ⟨?_, hh.room, hh.after⟩
      show ftotal L' ≤ _
      rw [← ftotal_perm hperm, ← hflay, ftotal_lay h.srt.named]
      have h9 := h.small.room
      have h8 : (s.data.toList.take K).length ≤ s.size := by simp; omega
      omega
    have hp2 := hput V3 x rb cap ({ st with dead := true } : St) (H1.out.1.below hbw) rfl hsm
    rw [show txt (⟨n, (s.data.toList.take K), 0⟩ : Fi).bytes = S1 from htx] at hp2
    refine hp2.mono ?_
    rintro e w' ⟨he, F', hF', hE⟩
    exact ⟨he, { ({ st with dead := true } : St) with files := L' }, ⟨by show (flay _ _ _).Perm L'; rw [hflay]; exact hperm, rfl, rfl, rfl, rfl⟩, F', hF', H1.out.2.trans ((Eff.below hbw).trans hE)⟩
  have HF := Lib.hid hfinish
  clear hV2 hS1 oV2 hfinish
  have hmk : min K s.size = K := by omega
  have hxs : ¬ 9223372036854775807 < S0.size + K := by omega
  go_upto_region 15 with fail
  go_region_law (fail)
  all_goals go_upto_region 16 with fail
  all_goals rw [← HV2.out.2, ← HV2.out.1]
  all_goals go_wp2_with fail
  all_goals refine (HF.out V2.drew rfl rfl rfl rfl).mono ?_
  all_goals rintro e w5 ⟨rfl, h5⟩
  all_goals have H5 := Lib.hid h5
  all_goals clear h5
  all_goals go_wp2_with fail
  all_goals go_ret
  all_goals exact ⟨rfl, H5.out⟩
set_option maxRecDepth 100000 in
set_option maxHeartbeats 3200000 in
theorem rapp_lay_some (h : RefD w x rb cap st) (n s : ByteArray) (hd : st.dead = false) (ha : st.after = 0) (hs : (s.size : Int) ≤ 281474976710656) (hfit : (ftotal st.files : Int) + s.size ≤ st.room) (K : Nat) (hK : (K : Int) = max (min st.torn s.size) 0) (hK0 : 0 < K) {g : Fi} (hg : fget st.files n = some g) (hlen : st.files.length < 1000000) :
    Calls Try.prog 56 #[.pointer (some ⟨x, 0, none⟩), .string n, .string s] w fun e w' => e = .returned (.int .i64 19) ∧ RLike w x (rfoot x rb) { st with dead := true, files := flay st.files n (s.data.toList.take K) } w' := by
  obtain ⟨k, hp⟩ := place_ex st.files n
  obtain ⟨hk, hgk, hgn⟩ := hp.yes h.srt hg
  obtain ⟨L', hsL, hperm, hput⟩ := rput_any st.files h.srt ⟨n, g.bytes ++ (s.data.toList.take K), g.synced⟩ hlen
  have hflay : flay st.files n (s.data.toList.take K) = fput st.files ⟨n, g.bytes ++ (s.data.toList.take K), g.synced⟩ := by unfold flay; rw [hg]
  have hc := rcrash_now h hd ha
  have Hc := Lib.hid hc
  obtain ⟨t, ht⟩ : ∃ t, t = ftotal st.files := ⟨_, rfl⟩
  obtain ⟨r, hr⟩ : ∃ r, r = st.room := ⟨_, rfl⟩
  have hrb : r ≤ 1099511627776 := by rw [hr]; exact h.small.room
  have htb : (t : Int) ≤ 1099511627776 := by have := h.small.total; omega
  have ht0 : (0 : Int) ≤ (t : Int) := by omega
  rw [← ht, ← hr] at hfit
  have hsb : (s.size : Int) ≤ 1099511627776 := by omega
  obtain ⟨m, hm⟩ : ∃ m, m = st.files.length := ⟨_, rfl⟩
  have hkm : (k : Int) ≤ (m : Int) := by have := hp.le; omega
  have hk0 : (0 : Int) ≤ (k : Int) := by omega
  have hmI : (m : Int) ≤ 1000000 := by omega
  have hkm1 : (k : Int) < (m : Int) := by omega
  have hgb : (g.bytes.length : Int) ≤ 1099511627776 := by
    have h1 := ftotal_take hk
    have h2 := ftotal_take_le st.files (k + 1)
    have h3 := h.small.total
    rw [hgk] at h1
    omega
  obtain ⟨tz, hto⟩ : ∃ tz, tz = st.torn := ⟨_, rfl⟩
  rw [← hto] at hK
  have hKs : (K : Int) ≤ (s.size : Int) := by omega
  have hKn : (0 : Int) ≤ (K : Int) := by omega
  have hKp : (0 : Int) < (K : Int) := by omega
  have hmx : max (min tz (s.size : Int)) 0 = (K : Int) := hK.symm
  have H := Lib.hid (And.intro h (And.intro hp (And.intro hg (And.intro hlen (And.intro ht (And.intro hr (And.intro hm (And.intro hsL (And.intro hperm (And.intro hput (And.intro hflay (And.intro hk (And.intro hgk (And.intro hgn hto))))))))))))))
  clear h hp hg hlen ht hr hm hsL hperm hput hflay hgk hgn hto hK hc hd ha
  go_enter Try.func56, Try.ntmps56
  go_wp2_with fail
  refine Hc.out.mono ?_
  rintro e w1 ⟨rfl, h1, hE1⟩
  obtain ⟨h, hp, hg, hlen, ht, hr, hm, hsL, hperm, hput, hflay, hk_, hgk, hgn, hto⟩ := H.out
  have hu : ∀ q, Calls Try.prog 78 #[.pointer (some ⟨x, 0, none⟩)] (w1.drewN q) fun e w' => e = .returned (.int .i64 (t : Nat)) ∧ w' = w1.drewN q := by rw [ht]; exact fun q => used_quiet h1 hlen q
  have c1 := h1.cell.2.1
  rw [show ({ st with dead := true } : St).room = r from hr.symm] at c1
  have Hu := Lib.hid hu
  have H1 := Lib.hid (And.intro h1 hE1)
  clear h hp hg hlen ht hr hm hsL hperm hput hflay hgk hgn hto hu h1 hE1
  go_upto_region 4 with fail
  go_quiet ((go_at_call 78; exact Calls.quiet_of_same (Hu.out _)))
  rename_i nq
  obtain ⟨wx, hwx⟩ : ∃ wx, wx = w1.drewN nq := ⟨_, rfl⟩
  rw [← hwx]
  have hbx : Below w1.heap.size w1 wx := by rw [hwx]; exact ⟨rfl, rfl, rfl, Nat.le_refl _, fun _ _ => rfl⟩
  have hx := H1.out.1.below hbx
  have hfind := rfind_c hx n k H.out.2.1 H.out.2.2.2.1
  rw [show fget ({ st with dead := true } : St).files n = some g from H.out.2.2.1] at hfind
  have Hf : Hid (Calls Try.prog 79 #[.pointer (some ⟨x, 0, none⟩), .string n] wx fun e w' => e = .returned (.tuple #[.int .i64 (k : Int), .bool true]) ∧ Below wx.heap.size wx w') := Lib.hid hfind
  have HX := Lib.hid (And.intro hx hbx)
  clear hx hfind hbx hwx c1
  go_wp2_with fail
  refine Hf.out.mono ?_
  rintro e w2 ⟨rfl, hb2⟩
  have h2 := HX.out.1.below hb2
  obtain ⟨V, hV⟩ : ∃ V, V = w2.alloc (.cells #[.string n, .string ⟨#[]⟩, .int .i64 0] 91 (0, 0)) := ⟨_, rfl⟩
  have hbV : Below w2.heap.size w2 V := by rw [hV]; exact (Below.refl _ _).alloc (Nat.le_refl _) _
  have oV : V.heap[w2.heap.size]? = some (.cells #[.string n, .string ⟨#[]⟩, .int .i64 0] 91 (0, 0)) := by rw [hV]; exact heap_alloc_new _ _
  obtain ⟨b, rfl, hbl, q0', q1', q2', qf⟩ := h2.file k hk
  have hgk2 : st.files[k] = g := by obtain ⟨h, hp, hg, hlen, ht, hr, hm, hsL, hperm, hput, hflay, hk, hgk, hgn, hto⟩ := H.out; exact hgk
  have hkV : ∀ o, V.cell? ⟨b, o, none⟩ = w2.cell? ⟨b, o, none⟩ := fun o => World.cell?_of_block (a := ⟨b, o, none⟩) (hbV.block b hbl)
  have q0 : V.cell? ⟨b, k * 3, none⟩ = some (.string g.name) := by rw [hkV, ← hgk2]; exact q0'
  have q1 : V.cell? ⟨b, k * 3 + 1, none⟩ = some (.string (txt g.bytes)) := by rw [hkV, ← hgk2]; exact q1'
  have q2 : V.cell? ⟨b, k * 3 + 2, none⟩ = some (.int .i64 (g.synced : Int)) := by rw [hkV, ← hgk2]; exact q2'
  have dV := (h2.below hbV).cell.1
  rw [show ({ st with dead := true } : St).files.length = m from H.out.2.2.2.2.2.2.1.symm] at dV
  obtain ⟨P, hP⟩ : ∃ P, P = w2.heap.size := ⟨_, rfl⟩
  rw [← hP] at oV
  have a0 : V.cell? ⟨P, 0, none⟩ = some (.string n) := by rw [cell_of_row _ _ _ _ _ _ oV]; rfl
  have a1 : V.cell? ⟨P, 1, none⟩ = some (.string ⟨#[]⟩) := by rw [cell_of_row _ _ _ _ _ _ oV]; rfl
  have a2 : V.cell? ⟨P, 2, none⟩ = some (.int .i64 0) := by rw [cell_of_row _ _ _ _ _ _ oV]; rfl
  have af0 := frozen_of_row V P 0 _ _ oV
  have af1 := frozen_of_row V P 1 _ _ oV
  have af2 := frozen_of_row V P 2 _ _ oV
  obtain ⟨S0, hS0⟩ : ∃ S0, S0 = txt g.bytes := ⟨_, rfl⟩
  rw [← hS0] at q1
  have hS0s : (S0.size : Int) ≤ 1099511627776 := by rw [hS0, txt_size]; exact hgb
  obtain ⟨V1, hV1⟩ : ∃ V1, V1 = ((V.setCell ⟨P, 0, none⟩ (.string g.name)).setCell ⟨P, 1, none⟩ (.string S0)).setCell ⟨P, 2, none⟩ (.int .i64 (g.synced : Int)) := ⟨_, rfl⟩
  have oV1 : V1.heap[P]? = some (.cells #[.string g.name, .string S0, .int .i64 (g.synced : Int)] 91 (0, 0)) := by rw [hV1, setCell_block _ (setCell_block _ (setCell_block _ oV))]; rfl
  have hbV1 : Below w2.heap.size w2 V1 := by rw [hV1]; exact ((hbV.setCell (p := ⟨P, 0, none⟩) (Nat.le_of_eq hP.symm) _).setCell (p := ⟨P, 1, none⟩) (Nat.le_of_eq hP.symm) _).setCell (p := ⟨P, 2, none⟩) (Nat.le_of_eq hP.symm) _
  have hgn : g.name = n := by obtain ⟨h, hp, hg, hlen, ht, hr, hm, hsL, hperm, hput, hflay, hk, hgk, hgn, hto⟩ := H.out; exact hgn
  rw [hgn] at oV1
  have hsy : True := by obtain ⟨h, hp, hg, hlen, ht, hr, hm, hsL, hperm, hput, hflay, hk, hgk, hgn, hto⟩ := H.out; exact trivial
  have b0 : V1.cell? ⟨P, 0, none⟩ = some (.string n) := by rw [cell_of_row _ _ _ _ _ _ oV1]; rfl
  have b1 : V1.cell? ⟨P, 1, none⟩ = some (.string S0) := by rw [cell_of_row _ _ _ _ _ _ oV1]; rfl
  have b2 : V1.cell? ⟨P, 2, none⟩ = some (.int .i64 (g.synced : Int)) := by rw [cell_of_row _ _ _ _ _ _ oV1]; rfl
  have bf1 := frozen_of_row V1 P 1 _ _ oV1
  have H2 := Lib.hid (And.intro h2 (And.intro hb2 (And.intro hbV1 (And.intro oV1 (And.intro hP hS0)))))
  have HV := Lib.hid hV
  have HV1 := Lib.hid hV1
  have eT : V1.cell? ⟨x, 3, none⟩ = some (.int .i64 tz) := by have h3 := (h2.below hbV1).cell.2.2.2.1; rw [show ({ st with dead := true } : St).torn = tz from (by obtain ⟨h, hp, hg, hlen, ht, hr, hm, hsL, hperm, hput, hflay, hk, hgk, hgn, hto⟩ := H.out; exact hto.symm)] at h3; exact h3
  clear h2 hb2 hbV oV hP hV hS0 hbV1 oV1 hV1 hbl q0' q1' q2' hgk2 qf hkV hgn hsy
  go_upto_region 10 with fail
  rw [← HV.out, ← H2.out.2.2.2.2.1]
  go_upto_region 12 with fail
  rw [← HV1.out]
  clear a0 a1 a2 af0 af1 af2 q0 q1 q2 dV
  obtain ⟨S1, hS1⟩ : ∃ S1, S1 = S0 ++ (s.extract 0 K) := ⟨_, rfl⟩
  obtain ⟨V2, hV2⟩ : ∃ V2, V2 = V1.setCell ⟨P, 1, none⟩ (.string S1) := ⟨_, rfl⟩
  have oV2 : V2.heap[P]? = some (.cells #[.string n, .string S1, .int .i64 (g.synced : Int)] 91 (0, 0)) := by rw [hV2, setCell_block _ H2.out.2.2.2.1]; rfl
  have g0 : V2.cell? ⟨P, 0, none⟩ = some (.string n) := by rw [cell_of_row _ _ _ _ _ _ oV2]; rfl
  have g1 : V2.cell? ⟨P, 1, none⟩ = some (.string S1) := by rw [cell_of_row _ _ _ _ _ _ oV2]; rfl
  have g2 : V2.cell? ⟨P, 2, none⟩ = some (.int .i64 (g.synced : Int)) := by rw [cell_of_row _ _ _ _ _ _ oV2]; rfl
  have HV2 := Lib.hid (And.intro hV2 hS1)
  have hfinish : ∀ V3 : World, V3.heap = V2.heap → V3.os = V2.os → V3.tape = V2.tape → V3.output = V2.output → Calls Try.prog 80 #[.pointer (some ⟨x, 0, none⟩), .agg #[.string n, .string S1, .int .i64 (g.synced : Int)]] V3 fun e w' => e = .returned (.tuple #[]) ∧ RLike w x (rfoot x (some b)) { st with dead := true, files := flay st.files n (s.data.toList.take K) } w' := fun V3 e1 e2 e3 e4 => by
    obtain ⟨h, hp, hg, hlen, ht, hr, hm, hsL, hperm, hput, hflay, hk, hgk, hgn, hto⟩ := H.out
    obtain ⟨h2, hb2, hbV1, oV1, hP, hS0⟩ := H2.out
    have hbV2 : Below w2.heap.size w2 V2 := by rw [hV2]; exact hbV1.setCell (p := ⟨P, 1, none⟩) (Nat.le_of_eq hP.symm) _
    have hbV3 : Below w2.heap.size w2 V3 := ⟨e2.trans hbV2.os, e3.trans hbV2.tape, e4.trans hbV2.output, by rw [e1]; exact hbV2.size, fun k hk => by rw [e1]; exact hbV2.block k hk⟩
    have hbw : Below w1.heap.size w1 V3 := (HX.out.2.trans (hb2.mono HX.out.2.size)).trans (hbV3.mono (Nat.le_trans HX.out.2.size hb2.size))
    have happ : txt (s.data.toList.take K) = (s.extract 0 K) := txt_take s K
    have htx : txt (g.bytes ++ (s.data.toList.take K)) = S1 := by
      rw [txt_append, hS1, hS0, happ]
    have hsm : St.Small { ({ st with dead := true } : St) with files := L' } := by
      have hh := H1.out.1.small
      refine ⟨?_, hh.room, hh.after⟩
      show ftotal L' ≤ _
      rw [← ftotal_perm hperm, ← hflay, ftotal_lay h.srt.named]
      have h9 := h.small.room
      have h8 : (s.data.toList.take K).length ≤ s.size := by simp; omega
      omega
    have hp2 := hput V3 x (some b) cap ({ st with dead := true } : St) (H1.out.1.below hbw) rfl hsm
    rw [show txt (⟨n, g.bytes ++ (s.data.toList.take K), g.synced⟩ : Fi).bytes = S1 from htx] at hp2
    refine hp2.mono ?_
    rintro e w' ⟨he, F', hF', hE⟩
    exact ⟨he, { ({ st with dead := true } : St) with files := L' }, ⟨by show (flay _ _ _).Perm L'; rw [hflay]; exact hperm, rfl, rfl, rfl, rfl⟩, F', hF', H1.out.2.trans ((Eff.below hbw).trans hE)⟩
  have HF := Lib.hid hfinish
  clear hV2 hS1 oV2 hfinish
  have hmk : min K s.size = K := by omega
  have hxs : ¬ 9223372036854775807 < S0.size + K := by omega
  go_upto_region 15 with fail
  go_region_law (fail)
  all_goals go_upto_region 16 with fail
  all_goals rw [← HV2.out.2, ← HV2.out.1]
  all_goals go_wp2_with fail
  all_goals refine (HF.out V2.drew rfl rfl rfl rfl).mono ?_
  all_goals rintro e w5 ⟨rfl, h5⟩
  all_goals have H5 := Lib.hid h5
  all_goals clear h5
  all_goals go_wp2_with fail
  all_goals go_ret
  all_goals exact ⟨rfl, H5.out⟩
end
end Go.Proofs.Ytmjeanbbhacnaaa
