/- The law RecordPlays walked; its argument. No condition but what the arguments are. -/
import Derived.Test.YtmjeanbbhacnaaaR07All
import Derived.Test.YtmjeanbbhacnaaaRecSame
import Derived.Test.YtmjeanbbhacnaaaRecTears
import Derived.Test.YtmjeanbbhacnaaaRow
import Derived.Deep.Slices
import Derived.Deep.Fields
import Derived.ChangeSame
import Derived.SizedLaws
import Derived.Lib.SmallJoins
import Derived.Carry
namespace Go.Proofs.Ytmjeanbbhacnaaa
open Go.RowKit
attribute [local go_sem ↓] Go.wp_at_zero Go.wp_at_succ
theorem fdel_lt {l : List Fi} {a : ByteArray} {f : Fi} (h : fget l a = some f) : (fdel l a).length < l.length := by
  obtain ⟨hm, hn⟩ := fget_some h
  unfold fdel
  exact List.length_filter_lt_length_iff_exists.2 ⟨f, hm, by simp [hn]⟩
theorem frename_len' (l : List Fi) (a b : ByteArray) : (frename a b l).length ≤ l.length := by
  unfold frename
  split
  · exact Nat.le_refl _
  · rename_i f hf
    have h1 := fdel_lt hf
    have h2 := fput_len (fdel l a) { f with name := b }
    omega
theorem ren_len' (st : St) (n b : ByteArray) : (St.ren n b st).1.files.length ≤ st.files.length := deed_len (frename_len' _ _ _)
theorem clean_len (st : St) (n : ByteArray) : (St.clean n st).1.files.length ≤ st.files.length := by
  unfold St.clean
  split
  · exact del_len _ _
  · exact Nat.le_refl _
theorem until_len {g : St → St × Int} {r : List (St → St × Int)} {st : St} {a b : Nat} (h1 : (g st).1.files.length ≤ a) (h2 : (St.until r (g st).1).1.files.length ≤ b) (hab : a ≤ b) : (St.until (g :: r) st).1.files.length ≤ b := by
  by_cases h : (g st).2 = 0
  · rw [until_go h]; exact h2
  · rw [until_stop h]; omega
theorem swap_len (st : St) (n : ByteArray) (s : List UInt8) : (St.swap n s st).1.files.length ≤ st.files.length + 1 := by
  have h1 := clean_len st n
  unfold St.swap
  split
  · refine until_len h1 ?_ (Nat.le_succ _)
    rw [until_one]
    have := del_len (St.clean n st).1 n
    omega
  · have h2 : (St.app (newName n) s (St.clean n st).1).1.files.length ≤ (St.clean n st).1.files.length + 1 := append_len _ _ _
    have h3 := sync_len (St.app (newName n) s (St.clean n st).1).1 (newName n)
    have h4 := ren_len' (St.sync (newName n) (St.app (newName n) s (St.clean n st).1).1).1 (newName n) n
    refine until_len h1 (until_len (a := st.files.length + 1) (by omega) (until_len (a := st.files.length + 1) (by omega) ?_ (Nat.le_refl _)) (Nat.le_refl _)) (Nat.le_succ _)
    rw [until_one]
    omega
theorem add_len (st : St) (n : ByteArray) (s : List UInt8) : (St.add n s st).1.files.length ≤ st.files.length + 1 := by
  unfold St.add
  split
  · exact Nat.le_succ _
  · have h2 : (St.app n (frameL s) st).1.files.length ≤ st.files.length + 1 := append_len _ _ _
    have h3 := sync_len (St.app n (frameL s) st).1 n
    refine until_len h2 ?_ (Nat.le_refl _)
    rw [until_one]
    omega
theorem replace_len (st : St) (n : ByteArray) (s : List UInt8) : (St.replace n s st).1.files.length ≤ st.files.length + 1 := by
  unfold St.replace
  split
  · exact Nat.le_succ _
  · exact swap_len _ _ _
theorem mend_len (st : St) (n : ByteArray) : (St.mend n st).1.files.length ≤ st.files.length + 1 := by
  unfold St.mend
  split
  · exact swap_len _ _ _
  · exact Nat.le_succ _
/-- One of three names. -/
def nmD (k : Nat) : ByteArray := if k = 0 then ⟨#[102]⟩ else if k = 1 then ⟨#[103]⟩ else ⟨#[102, 46, 110, 101, 119]⟩
theorem nmD_size (k : Nat) : ((nmD k).size : Int) ≤ 1000 := by unfold nmD; split <;> (try split) <;> decide
set_option maxRecDepth 100000 in
theorem name_any (W : World) (za : Int) (hza : 0 ≤ za ∧ za ≤ 255) (ka : Nat) (hka : za % 3 = (ka : Int)) : Calls Try.prog 28 #[.int .u8 za] W fun e w' => e = .returned (.string (nmD ka)) ∧ Below W.heap.size W w' := by
  have hka3 : (ka : Int) < 3 := by omega
  have hka0 : (0 : Int) ≤ (ka : Int) := by omega
  obtain ⟨X, hX⟩ : ∃ X, X = nmD ka := ⟨_, rfl⟩
  obtain ⟨W2, hW2⟩ : ∃ W2, W2 = W.alloc (.cells #[.string ⟨#[102]⟩, .string ⟨#[103]⟩, .string ⟨#[102, 46, 110, 101, 119]⟩] 9 (0, 0)) := ⟨_, rfl⟩
  have hb2 : Below W.heap.size W W2 := by rw [hW2]; exact (Below.refl _ _).alloc (Nat.le_refl _) _
  have cX : W2.cell? ⟨W.heap.size, ka, none⟩ = some (.string X) := by
    rw [hW2, cell_of_row _ _ _ _ _ _ (heap_alloc_new W _), hX]
    have : ka = 0 ∨ ka = 1 ∨ ka = 2 := by omega
    rcases this with rfl | rfl | rfl <;> rfl
  rw [← hX]
  have hw2 := hW2.symm
  have Hb := Lib.hid hb2
  clear hX hW2 hb2
  go_enter Try.func28, Try.ntmps28
  go_wp2_with fail
  go_ret
  exact ⟨rfl, Hb.out⟩
def Xq (Q : Nat) : Nat → Prop := fun k => k = Q
def DoesTo (W0 : World) (m : Nat) (e : Ending) (w' : World) : Prop := ∃ d x st, e = .returned (.tuple #[.pointer (some ⟨d, 0, none⟩), .pointer (some ⟨x, 0, none⟩), .bool true]) ∧ PairD W0 w' d x st st (fun _ => False) ∧ st.files.length ≤ m + 1
section
variable {W0 w : World} {d x : Nat} {st : St}
set_option maxRecDepth 100000 in
set_option maxHeartbeats 3200000 in
theorem does_mend (h : PairD W0 w d x st st (fun _ => False)) (zk za n m : Int) (s : ByteArray) (hzk : 0 ≤ zk ∧ zk ≤ 255) (hk7 : zk % 7 = 2) (hza : 0 ≤ za ∧ za ≤ 255) (hn63 : n ≤ 9223372036854775807) (hs : s.size ≤ 281474976710656) (hlen : st.files.length < 100000) :
    Calls Try.prog 25 #[.pointer (some ⟨d, 0, none⟩), .pointer (some ⟨x, 0, none⟩), .agg #[.int .u8 zk, .int .u8 za, .string s, .int .i64 n, .int .i64 m]] w fun e w' => DoesTo W0 st.files.length e w' := by
  obtain ⟨ka, hka⟩ : ∃ k : Nat, za % 3 = (k : Int) := ⟨(za % 3).toNat, by omega⟩
  obtain ⟨W1, hW1⟩ : ∃ W1, W1 = w.alloc (.cells #[.int .u8 zk, .int .u8 za, .string s, .int .i64 n, .int .i64 m] 42 (0, 0)) := ⟨_, rfl⟩
  have hb1 : Below w.heap.size w W1 := by rw [hW1]; exact (Below.refl _ _).alloc (Nat.le_refl _) _
  have hs1 : W1.heap.size = w.heap.size + 1 := by rw [hW1]; exact World.size_alloc _ _
  have o1 : W1.heap[w.heap.size]? = some (.cells #[.int .u8 zk, .int .u8 za, .string s, .int .i64 n, .int .i64 m] 42 (0, 0)) := by rw [hW1]; exact heap_alloc_new w _
  obtain ⟨Q, hQ⟩ : ∃ Q, Q = w.heap.size := ⟨_, rfl⟩
  rw [← hQ] at o1
  have hP : PairD W0 W1 d x st st (Xq Q) := h.more hb1 fun k hk => .inr (by have h1 : k = Q := hk; omega)
  have a0 : W1.cell? ⟨Q, 0, none⟩ = some (.int .u8 zk) := by rw [cell_of_row _ _ _ _ _ _ o1]; rfl
  have a1 : W1.cell? ⟨Q, 1, none⟩ = some (.int .u8 za) := by rw [cell_of_row _ _ _ _ _ _ o1]; rfl
  have a2 : W1.cell? ⟨Q, 2, none⟩ = some (.string s) := by rw [cell_of_row _ _ _ _ _ _ o1]; rfl
  have a3 : W1.cell? ⟨Q, 3, none⟩ = some (.int .i64 n) := by rw [cell_of_row _ _ _ _ _ _ o1]; rfl
  have a4 : W1.cell? ⟨Q, 4, none⟩ = some (.int .i64 m) := by rw [cell_of_row _ _ _ _ _ _ o1]; rfl
  have HP := Lib.hid hP
  have HO := Lib.hid (And.intro o1 hlen)
  have HW1 := Lib.hid hW1
  have HQ := Lib.hid hQ
  obtain ⟨NM, hNM⟩ : ∃ NM, NM = nmD ka := ⟨_, rfl⟩
  have hnm : ∀ W, Calls Try.prog 28 #[.int .u8 za] W fun e w' => e = .returned (.string NM) ∧ Below W.heap.size W w' := fun W => by rw [hNM]; exact name_any W za hza ka hka
  have hnmS : (NM.size : Int) ≤ 1000 := by rw [hNM]; exact nmD_size _
  obtain ⟨res, hres⟩ : ∃ r, r = St.mend NM st := ⟨_, rfl⟩
  have hd : ∀ W, PairD W0 W d x st st (Xq Q) → Calls Try.prog 42 #[.pointer (some ⟨d, 0, none⟩), .string NM] W fun e w' => e = .returned (.int .i64 res.2) ∧ PairD W0 w' d x res.1 st (Xq Q) ∧ Keep (Xq Q) W w' := fun W h => by rw [hres]; exact d_mend h NM hnmS
  have hx : ∀ W, PairD W0 W d x res.1 st (Xq Q) → Calls Try.prog 54 #[.pointer (some ⟨x, 0, none⟩), .string NM] W fun e w' => e = .returned (.int .i64 res.2) ∧ PairD W0 w' d x res.1 res.1 (Xq Q) ∧ Keep (Xq Q) W w' := fun W h => by rw [hres] at h ⊢; exact x_mend h NM hnmS (by omega)
  have hrl : res.1.files.length ≤ st.files.length + 1 := by rw [hres]; exact mend_len _ _
  have HNm := Lib.hid hnm
  have HD := Lib.hid hd
  have HX := Lib.hid hx
  have HL := Lib.hid hrl
  have hkb : ∀ w1 w2 : World, Below w1.heap.size w1 w2 → (w1.cell? ⟨Q, 1, none⟩ = some (.int .u8 za) ∧ w1.cell? ⟨Q, 2, none⟩ = some (.string s)) → (w2.cell? ⟨Q, 1, none⟩ = some (.int .u8 za) ∧ w2.cell? ⟨Q, 2, none⟩ = some (.string s)) := fun w1 w2 hb ⟨q1, q2⟩ => by
    have hl := World.block_lt_of_cell? w1 ⟨Q, 1, none⟩ q1
    have e := fun o => World.cell?_of_block (a := ⟨Q, o, none⟩) (hb.block Q hl)
    exact ⟨(e 1).trans q1, (e 2).trans q2⟩
  have hkk : ∀ w1 w2 : World, Keep (Xq Q) w1 w2 → (w1.cell? ⟨Q, 1, none⟩ = some (.int .u8 za) ∧ w1.cell? ⟨Q, 2, none⟩ = some (.string s)) → (w2.cell? ⟨Q, 1, none⟩ = some (.int .u8 za) ∧ w2.cell? ⟨Q, 2, none⟩ = some (.string s)) := fun w1 w2 hk ⟨q1, q2⟩ => by
    have e := fun o => World.cell?_of_block (a := ⟨Q, o, none⟩) (hk Q rfl)
    exact ⟨(e 1).trans q1, (e 2).trans q2⟩
  have HKB := Lib.hid hkb
  have HKK := Lib.hid hkk
  have HS := Lib.hid (And.intro a1 a2)
  have gR : (res.2 == res.2) = true := by simp
  clear h hza hs hlen hka hb1 hs1 o1 hQ hP hW1 hNM hnm hnmS hres hd hx hrl hkb hkk a1 a2 a3 a4
  go_enter Try.func25, Try.ntmps25
  go_upto_region 1 with fail
  rw [← HW1.out, ← HQ.out]
  go_upto_region 3 with fail
  go_region_held3 (fun w' => w'.cell? ⟨Q, 1, none⟩ = some (.int .u8 za) ∧ w'.cell? ⟨Q, 2, none⟩ = some (.string s)) (first | assumption | exact HS.out | exact HKB.out _ _ (by assumption) (by assumption) | exact HKK.out _ _ (by assumption) (by assumption)) (first | (go_at_call 28; ((with_reducible refine (HNm.out _).mono ?_); rintro e wx ⟨rfl, hbx⟩)) | (go_at_call 42; ((with_reducible refine (HD.out _ ((HP.out.below ((Below.refl _ _).drew)).below hbx)).mono ?_); rintro e wy ⟨rfl, hp1, hk1⟩)) | (go_at_call 54; ((with_reducible refine (HX.out _ (hp1.below hbx)).mono ?_); rintro e wz ⟨rfl, hp2, hk2⟩)))
  all_goals go_wp2_with fail
  all_goals go_ret3
  all_goals exact ⟨d, x, res.1, rfl, hp2.less (fun _ hk => hk.elim), HL.out⟩
set_option maxRecDepth 100000 in
set_option maxHeartbeats 3200000 in
theorem does_replace (h : PairD W0 w d x st st (fun _ => False)) (zk za n m : Int) (s : ByteArray) (hzk : 0 ≤ zk ∧ zk ≤ 255) (hk7 : zk % 7 = 3) (hza : 0 ≤ za ∧ za ≤ 255) (hn63 : n ≤ 9223372036854775807) (hs : s.size ≤ 281474976710656) (hlen : st.files.length < 100000) :
    Calls Try.prog 25 #[.pointer (some ⟨d, 0, none⟩), .pointer (some ⟨x, 0, none⟩), .agg #[.int .u8 zk, .int .u8 za, .string s, .int .i64 n, .int .i64 m]] w fun e w' => DoesTo W0 st.files.length e w' := by
  obtain ⟨ka, hka⟩ : ∃ k : Nat, za % 3 = (k : Int) := ⟨(za % 3).toNat, by omega⟩
  obtain ⟨W1, hW1⟩ : ∃ W1, W1 = w.alloc (.cells #[.int .u8 zk, .int .u8 za, .string s, .int .i64 n, .int .i64 m] 42 (0, 0)) := ⟨_, rfl⟩
  have hb1 : Below w.heap.size w W1 := by rw [hW1]; exact (Below.refl _ _).alloc (Nat.le_refl _) _
  have hs1 : W1.heap.size = w.heap.size + 1 := by rw [hW1]; exact World.size_alloc _ _
  have o1 : W1.heap[w.heap.size]? = some (.cells #[.int .u8 zk, .int .u8 za, .string s, .int .i64 n, .int .i64 m] 42 (0, 0)) := by rw [hW1]; exact heap_alloc_new w _
  obtain ⟨Q, hQ⟩ : ∃ Q, Q = w.heap.size := ⟨_, rfl⟩
  rw [← hQ] at o1
  have hP : PairD W0 W1 d x st st (Xq Q) := h.more hb1 fun k hk => .inr (by have h1 : k = Q := hk; omega)
  have a0 : W1.cell? ⟨Q, 0, none⟩ = some (.int .u8 zk) := by rw [cell_of_row _ _ _ _ _ _ o1]; rfl
  have a1 : W1.cell? ⟨Q, 1, none⟩ = some (.int .u8 za) := by rw [cell_of_row _ _ _ _ _ _ o1]; rfl
  have a2 : W1.cell? ⟨Q, 2, none⟩ = some (.string s) := by rw [cell_of_row _ _ _ _ _ _ o1]; rfl
  have a3 : W1.cell? ⟨Q, 3, none⟩ = some (.int .i64 n) := by rw [cell_of_row _ _ _ _ _ _ o1]; rfl
  have a4 : W1.cell? ⟨Q, 4, none⟩ = some (.int .i64 m) := by rw [cell_of_row _ _ _ _ _ _ o1]; rfl
  have HP := Lib.hid hP
  have HO := Lib.hid (And.intro o1 hlen)
  have HW1 := Lib.hid hW1
  have HQ := Lib.hid hQ
  obtain ⟨NM, hNM⟩ : ∃ NM, NM = nmD ka := ⟨_, rfl⟩
  have hnm : ∀ W, Calls Try.prog 28 #[.int .u8 za] W fun e w' => e = .returned (.string NM) ∧ Below W.heap.size W w' := fun W => by rw [hNM]; exact name_any W za hza ka hka
  have hnmS : (NM.size : Int) ≤ 1000 := by rw [hNM]; exact nmD_size _
  obtain ⟨res, hres⟩ : ∃ r, r = St.replace NM s.data.toList st := ⟨_, rfl⟩
  have hd : ∀ W, PairD W0 W d x st st (Xq Q) → Calls Try.prog 43 #[.pointer (some ⟨d, 0, none⟩), .string NM, .string s] W fun e w' => e = .returned (.int .i64 res.2) ∧ PairD W0 w' d x res.1 st (Xq Q) ∧ Keep (Xq Q) W w' := fun W h => by rw [hres]; exact d_replace h NM s hnmS
  have hx : ∀ W, PairD W0 W d x res.1 st (Xq Q) → Calls Try.prog 55 #[.pointer (some ⟨x, 0, none⟩), .string NM, .string s] W fun e w' => e = .returned (.int .i64 res.2) ∧ PairD W0 w' d x res.1 res.1 (Xq Q) ∧ Keep (Xq Q) W w' := fun W h => by rw [hres] at h ⊢; exact x_replace h NM s hnmS (by omega)
  have hrl : res.1.files.length ≤ st.files.length + 1 := by rw [hres]; exact replace_len _ _ _
  have HNm := Lib.hid hnm
  have HD := Lib.hid hd
  have HX := Lib.hid hx
  have HL := Lib.hid hrl
  have hkb : ∀ w1 w2 : World, Below w1.heap.size w1 w2 → (w1.cell? ⟨Q, 1, none⟩ = some (.int .u8 za) ∧ w1.cell? ⟨Q, 2, none⟩ = some (.string s)) → (w2.cell? ⟨Q, 1, none⟩ = some (.int .u8 za) ∧ w2.cell? ⟨Q, 2, none⟩ = some (.string s)) := fun w1 w2 hb ⟨q1, q2⟩ => by
    have hl := World.block_lt_of_cell? w1 ⟨Q, 1, none⟩ q1
    have e := fun o => World.cell?_of_block (a := ⟨Q, o, none⟩) (hb.block Q hl)
    exact ⟨(e 1).trans q1, (e 2).trans q2⟩
  have hkk : ∀ w1 w2 : World, Keep (Xq Q) w1 w2 → (w1.cell? ⟨Q, 1, none⟩ = some (.int .u8 za) ∧ w1.cell? ⟨Q, 2, none⟩ = some (.string s)) → (w2.cell? ⟨Q, 1, none⟩ = some (.int .u8 za) ∧ w2.cell? ⟨Q, 2, none⟩ = some (.string s)) := fun w1 w2 hk ⟨q1, q2⟩ => by
    have e := fun o => World.cell?_of_block (a := ⟨Q, o, none⟩) (hk Q rfl)
    exact ⟨(e 1).trans q1, (e 2).trans q2⟩
  have HKB := Lib.hid hkb
  have HKK := Lib.hid hkk
  have HS := Lib.hid (And.intro a1 a2)
  have gR : (res.2 == res.2) = true := by simp
  clear h hza hs hlen hka hb1 hs1 o1 hQ hP hW1 hNM hnm hnmS hres hd hx hrl hkb hkk a1 a2 a3 a4
  go_enter Try.func25, Try.ntmps25
  go_upto_region 1 with fail
  rw [← HW1.out, ← HQ.out]
  go_upto_region 5 with fail
  go_region_held3 (fun w' => w'.cell? ⟨Q, 1, none⟩ = some (.int .u8 za) ∧ w'.cell? ⟨Q, 2, none⟩ = some (.string s)) (first | assumption | exact HS.out | exact HKB.out _ _ (by assumption) (by assumption) | exact HKK.out _ _ (by assumption) (by assumption)) (first | (go_at_call 28; ((with_reducible refine (HNm.out _).mono ?_); rintro e wx ⟨rfl, hbx⟩)) | (go_at_call 43; ((with_reducible refine (HD.out _ ((HP.out.below ((Below.refl _ _).drew)).below hbx)).mono ?_); rintro e wy ⟨rfl, hp1, hk1⟩)) | (go_at_call 55; ((with_reducible refine (HX.out _ (hp1.below hbx)).mono ?_); rintro e wz ⟨rfl, hp2, hk2⟩)))
  all_goals go_wp2_with fail
  all_goals go_ret3
  all_goals exact ⟨d, x, res.1, rfl, hp2.less (fun _ hk => hk.elim), HL.out⟩
set_option maxRecDepth 100000 in
set_option maxHeartbeats 3200000 in
theorem does_append (h : PairD W0 w d x st st (fun _ => False)) (zk za n m : Int) (s : ByteArray) (hzk : 0 ≤ zk ∧ zk ≤ 255) (hk7 : zk % 7 = 4) (hza : 0 ≤ za ∧ za ≤ 255) (hn63 : n ≤ 9223372036854775807) (hs : s.size ≤ 281474976710656) (hlen : st.files.length < 100000) :
    Calls Try.prog 25 #[.pointer (some ⟨d, 0, none⟩), .pointer (some ⟨x, 0, none⟩), .agg #[.int .u8 zk, .int .u8 za, .string s, .int .i64 n, .int .i64 m]] w fun e w' => DoesTo W0 st.files.length e w' := by
  obtain ⟨ka, hka⟩ : ∃ k : Nat, za % 3 = (k : Int) := ⟨(za % 3).toNat, by omega⟩
  obtain ⟨W1, hW1⟩ : ∃ W1, W1 = w.alloc (.cells #[.int .u8 zk, .int .u8 za, .string s, .int .i64 n, .int .i64 m] 42 (0, 0)) := ⟨_, rfl⟩
  have hb1 : Below w.heap.size w W1 := by rw [hW1]; exact (Below.refl _ _).alloc (Nat.le_refl _) _
  have hs1 : W1.heap.size = w.heap.size + 1 := by rw [hW1]; exact World.size_alloc _ _
  have o1 : W1.heap[w.heap.size]? = some (.cells #[.int .u8 zk, .int .u8 za, .string s, .int .i64 n, .int .i64 m] 42 (0, 0)) := by rw [hW1]; exact heap_alloc_new w _
  obtain ⟨Q, hQ⟩ : ∃ Q, Q = w.heap.size := ⟨_, rfl⟩
  rw [← hQ] at o1
  have hP : PairD W0 W1 d x st st (Xq Q) := h.more hb1 fun k hk => .inr (by have h1 : k = Q := hk; omega)
  have a0 : W1.cell? ⟨Q, 0, none⟩ = some (.int .u8 zk) := by rw [cell_of_row _ _ _ _ _ _ o1]; rfl
  have a1 : W1.cell? ⟨Q, 1, none⟩ = some (.int .u8 za) := by rw [cell_of_row _ _ _ _ _ _ o1]; rfl
  have a2 : W1.cell? ⟨Q, 2, none⟩ = some (.string s) := by rw [cell_of_row _ _ _ _ _ _ o1]; rfl
  have a3 : W1.cell? ⟨Q, 3, none⟩ = some (.int .i64 n) := by rw [cell_of_row _ _ _ _ _ _ o1]; rfl
  have a4 : W1.cell? ⟨Q, 4, none⟩ = some (.int .i64 m) := by rw [cell_of_row _ _ _ _ _ _ o1]; rfl
  have HP := Lib.hid hP
  have HO := Lib.hid (And.intro o1 hlen)
  have HW1 := Lib.hid hW1
  have HQ := Lib.hid hQ
  obtain ⟨NM, hNM⟩ : ∃ NM, NM = nmD ka := ⟨_, rfl⟩
  have hnm : ∀ W, Calls Try.prog 28 #[.int .u8 za] W fun e w' => e = .returned (.string NM) ∧ Below W.heap.size W w' := fun W => by rw [hNM]; exact name_any W za hza ka hka
  have hnmS : (NM.size : Int) ≤ 1000 := by rw [hNM]; exact nmD_size _
  obtain ⟨res, hres⟩ : ∃ r, r = St.append st NM s.data.toList := ⟨_, rfl⟩
  have hd : ∀ W, PairD W0 W d x st st (Xq Q) → Calls Try.prog 17 #[.pointer (some ⟨d, 0, none⟩), .string NM, .string s] W fun e w' => e = .returned (.int .i64 res.2) ∧ PairD W0 w' d x res.1 st (Xq Q) ∧ Keep (Xq Q) W w' := fun W h => by rw [hres]; exact d_append h NM s hs
  have hx : ∀ W, PairD W0 W d x res.1 st (Xq Q) → Calls Try.prog 56 #[.pointer (some ⟨x, 0, none⟩), .string NM, .string s] W fun e w' => e = .returned (.int .i64 res.2) ∧ PairD W0 w' d x res.1 res.1 (Xq Q) ∧ Keep (Xq Q) W w' := fun W h => by rw [hres] at h ⊢; exact x_append h NM s hs (by omega)
  have hrl : res.1.files.length ≤ st.files.length + 1 := by rw [hres]; exact append_len _ _ _
  have HNm := Lib.hid hnm
  have HD := Lib.hid hd
  have HX := Lib.hid hx
  have HL := Lib.hid hrl
  have hkb : ∀ w1 w2 : World, Below w1.heap.size w1 w2 → (w1.cell? ⟨Q, 1, none⟩ = some (.int .u8 za) ∧ w1.cell? ⟨Q, 2, none⟩ = some (.string s)) → (w2.cell? ⟨Q, 1, none⟩ = some (.int .u8 za) ∧ w2.cell? ⟨Q, 2, none⟩ = some (.string s)) := fun w1 w2 hb ⟨q1, q2⟩ => by
    have hl := World.block_lt_of_cell? w1 ⟨Q, 1, none⟩ q1
    have e := fun o => World.cell?_of_block (a := ⟨Q, o, none⟩) (hb.block Q hl)
    exact ⟨(e 1).trans q1, (e 2).trans q2⟩
  have hkk : ∀ w1 w2 : World, Keep (Xq Q) w1 w2 → (w1.cell? ⟨Q, 1, none⟩ = some (.int .u8 za) ∧ w1.cell? ⟨Q, 2, none⟩ = some (.string s)) → (w2.cell? ⟨Q, 1, none⟩ = some (.int .u8 za) ∧ w2.cell? ⟨Q, 2, none⟩ = some (.string s)) := fun w1 w2 hk ⟨q1, q2⟩ => by
    have e := fun o => World.cell?_of_block (a := ⟨Q, o, none⟩) (hk Q rfl)
    exact ⟨(e 1).trans q1, (e 2).trans q2⟩
  have HKB := Lib.hid hkb
  have HKK := Lib.hid hkk
  have HS := Lib.hid (And.intro a1 a2)
  have gR : (res.2 == res.2) = true := by simp
  clear h hza hs hlen hka hb1 hs1 o1 hQ hP hW1 hNM hnm hnmS hres hd hx hrl hkb hkk a1 a2 a3 a4
  go_enter Try.func25, Try.ntmps25
  go_upto_region 1 with fail
  rw [← HW1.out, ← HQ.out]
  go_upto_region 7 with fail
  go_region_held3 (fun w' => w'.cell? ⟨Q, 1, none⟩ = some (.int .u8 za) ∧ w'.cell? ⟨Q, 2, none⟩ = some (.string s)) (first | assumption | exact HS.out | exact HKB.out _ _ (by assumption) (by assumption) | exact HKK.out _ _ (by assumption) (by assumption)) (first | (go_at_call 28; ((with_reducible refine (HNm.out _).mono ?_); rintro e wx ⟨rfl, hbx⟩)) | (go_at_call 17; ((with_reducible refine (HD.out _ ((HP.out.below ((Below.refl _ _).drew)).below hbx)).mono ?_); rintro e wy ⟨rfl, hp1, hk1⟩)) | (go_at_call 56; ((with_reducible refine (HX.out _ (hp1.below hbx)).mono ?_); rintro e wz ⟨rfl, hp2, hk2⟩)))
  all_goals go_wp2_with fail
  all_goals go_ret3
  all_goals exact ⟨d, x, res.1, rfl, hp2.less (fun _ hk => hk.elim), HL.out⟩
set_option maxRecDepth 100000 in
set_option maxHeartbeats 3200000 in
theorem does_add (h : PairD W0 w d x st st (fun _ => False)) (zk za n m : Int) (s : ByteArray) (hzk : 0 ≤ zk ∧ zk ≤ 255) (hk7 : zk % 7 = 0 ∨ zk % 7 = 1) (hza : 0 ≤ za ∧ za ≤ 255) (hn63 : n ≤ 9223372036854775807) (hs : s.size ≤ 281474976710656) (hlen : st.files.length < 100000) :
    Calls Try.prog 25 #[.pointer (some ⟨d, 0, none⟩), .pointer (some ⟨x, 0, none⟩), .agg #[.int .u8 zk, .int .u8 za, .string s, .int .i64 n, .int .i64 m]] w fun e w' => DoesTo W0 st.files.length e w' := by
  obtain ⟨ka, hka⟩ : ∃ k : Nat, za % 3 = (k : Int) := ⟨(za % 3).toNat, by omega⟩
  obtain ⟨W1, hW1⟩ : ∃ W1, W1 = w.alloc (.cells #[.int .u8 zk, .int .u8 za, .string s, .int .i64 n, .int .i64 m] 42 (0, 0)) := ⟨_, rfl⟩
  have hb1 : Below w.heap.size w W1 := by rw [hW1]; exact (Below.refl _ _).alloc (Nat.le_refl _) _
  have hs1 : W1.heap.size = w.heap.size + 1 := by rw [hW1]; exact World.size_alloc _ _
  have o1 : W1.heap[w.heap.size]? = some (.cells #[.int .u8 zk, .int .u8 za, .string s, .int .i64 n, .int .i64 m] 42 (0, 0)) := by rw [hW1]; exact heap_alloc_new w _
  obtain ⟨Q, hQ⟩ : ∃ Q, Q = w.heap.size := ⟨_, rfl⟩
  rw [← hQ] at o1
  have hP : PairD W0 W1 d x st st (Xq Q) := h.more hb1 fun k hk => .inr (by have h1 : k = Q := hk; omega)
  have a0 : W1.cell? ⟨Q, 0, none⟩ = some (.int .u8 zk) := by rw [cell_of_row _ _ _ _ _ _ o1]; rfl
  have a1 : W1.cell? ⟨Q, 1, none⟩ = some (.int .u8 za) := by rw [cell_of_row _ _ _ _ _ _ o1]; rfl
  have a2 : W1.cell? ⟨Q, 2, none⟩ = some (.string s) := by rw [cell_of_row _ _ _ _ _ _ o1]; rfl
  have a3 : W1.cell? ⟨Q, 3, none⟩ = some (.int .i64 n) := by rw [cell_of_row _ _ _ _ _ _ o1]; rfl
  have a4 : W1.cell? ⟨Q, 4, none⟩ = some (.int .i64 m) := by rw [cell_of_row _ _ _ _ _ _ o1]; rfl
  have HP := Lib.hid hP
  have HO := Lib.hid (And.intro o1 hlen)
  have HW1 := Lib.hid hW1
  have HQ := Lib.hid hQ
  obtain ⟨NM, hNM⟩ : ∃ NM, NM = nmD ka := ⟨_, rfl⟩
  have hnm : ∀ W, Calls Try.prog 28 #[.int .u8 za] W fun e w' => e = .returned (.string NM) ∧ Below W.heap.size W w' := fun W => by rw [hNM]; exact name_any W za hza ka hka
  have hnmS : (NM.size : Int) ≤ 1000 := by rw [hNM]; exact nmD_size _
  obtain ⟨res, hres⟩ : ∃ r, r = St.add NM s.data.toList st := ⟨_, rfl⟩
  have hd : ∀ W, PairD W0 W d x st st (Xq Q) → Calls Try.prog 41 #[.pointer (some ⟨d, 0, none⟩), .string NM, .string s] W fun e w' => e = .returned (.int .i64 res.2) ∧ PairD W0 w' d x res.1 st (Xq Q) ∧ Keep (Xq Q) W w' := fun W h => by rw [hres]; exact d_add h NM s
  have hx : ∀ W, PairD W0 W d x res.1 st (Xq Q) → Calls Try.prog 59 #[.pointer (some ⟨x, 0, none⟩), .string NM, .string s] W fun e w' => e = .returned (.int .i64 res.2) ∧ PairD W0 w' d x res.1 res.1 (Xq Q) ∧ Keep (Xq Q) W w' := fun W h => by rw [hres] at h ⊢; exact x_add h NM s (by omega)
  have hrl : res.1.files.length ≤ st.files.length + 1 := by rw [hres]; exact add_len _ _ _
  have HNm := Lib.hid hnm
  have HD := Lib.hid hd
  have HX := Lib.hid hx
  have HL := Lib.hid hrl
  have hkb : ∀ w1 w2 : World, Below w1.heap.size w1 w2 → (w1.cell? ⟨Q, 1, none⟩ = some (.int .u8 za) ∧ w1.cell? ⟨Q, 2, none⟩ = some (.string s)) → (w2.cell? ⟨Q, 1, none⟩ = some (.int .u8 za) ∧ w2.cell? ⟨Q, 2, none⟩ = some (.string s)) := fun w1 w2 hb ⟨q1, q2⟩ => by
    have hl := World.block_lt_of_cell? w1 ⟨Q, 1, none⟩ q1
    have e := fun o => World.cell?_of_block (a := ⟨Q, o, none⟩) (hb.block Q hl)
    exact ⟨(e 1).trans q1, (e 2).trans q2⟩
  have hkk : ∀ w1 w2 : World, Keep (Xq Q) w1 w2 → (w1.cell? ⟨Q, 1, none⟩ = some (.int .u8 za) ∧ w1.cell? ⟨Q, 2, none⟩ = some (.string s)) → (w2.cell? ⟨Q, 1, none⟩ = some (.int .u8 za) ∧ w2.cell? ⟨Q, 2, none⟩ = some (.string s)) := fun w1 w2 hk ⟨q1, q2⟩ => by
    have e := fun o => World.cell?_of_block (a := ⟨Q, o, none⟩) (hk Q rfl)
    exact ⟨(e 1).trans q1, (e 2).trans q2⟩
  have HKB := Lib.hid hkb
  have HKK := Lib.hid hkk
  have HS := Lib.hid (And.intro a1 a2)
  have gR : (res.2 == res.2) = true := by simp
  clear h hza hs hlen hka hb1 hs1 o1 hQ hP hW1 hNM hnm hnmS hres hd hx hrl hkb hkk a1 a2 a3 a4
  rcases hk7 with hk7 | hk7
  all_goals go_enter Try.func25, Try.ntmps25
  all_goals go_upto_region 1 with fail
  all_goals rw [← HW1.out, ← HQ.out]
  all_goals go_upto_region 14 with fail
  all_goals go_region_held3 (fun w' => w'.cell? ⟨Q, 1, none⟩ = some (.int .u8 za) ∧ w'.cell? ⟨Q, 2, none⟩ = some (.string s)) (first | assumption | exact HS.out | exact HKB.out _ _ (by assumption) (by assumption) | exact HKK.out _ _ (by assumption) (by assumption)) (first | (go_at_call 28; ((with_reducible refine (HNm.out _).mono ?_); rintro e wx ⟨rfl, hbx⟩)) | (go_at_call 41; ((with_reducible refine (HD.out _ ((HP.out.below ((Below.refl _ _).drew)).below hbx)).mono ?_); rintro e wy ⟨rfl, hp1, hk1⟩)) | (go_at_call 59; ((with_reducible refine (HX.out _ (hp1.below hbx)).mono ?_); rintro e wz ⟨rfl, hp2, hk2⟩)))
  all_goals go_wp2_with fail
  all_goals go_ret3
  all_goals exact ⟨d, x, res.1, rfl, hp2.less (fun _ hk => hk.elim), HL.out⟩
set_option maxRecDepth 100000 in
set_option maxHeartbeats 3200000 in
theorem does_arm (h : PairD W0 w d x st st (fun _ => False)) (zk za n m : Int) (s : ByteArray) (hzk : 0 ≤ zk ∧ zk ≤ 255) (hk7 : zk % 7 = 5) (hza : 0 ≤ za ∧ za ≤ 255) (hn63 : n ≤ 9223372036854775807) (hs : s.size ≤ 281474976710656) (hlen : st.files.length < 100000) :
    Calls Try.prog 25 #[.pointer (some ⟨d, 0, none⟩), .pointer (some ⟨x, 0, none⟩), .agg #[.int .u8 zk, .int .u8 za, .string s, .int .i64 n, .int .i64 m]] w fun e w' => DoesTo W0 st.files.length e w' := by
  obtain ⟨ka, hka⟩ : ∃ k : Nat, za % 3 = (k : Int) := ⟨(za % 3).toNat, by omega⟩
  obtain ⟨W1, hW1⟩ : ∃ W1, W1 = w.alloc (.cells #[.int .u8 zk, .int .u8 za, .string s, .int .i64 n, .int .i64 m] 42 (0, 0)) := ⟨_, rfl⟩
  have hb1 : Below w.heap.size w W1 := by rw [hW1]; exact (Below.refl _ _).alloc (Nat.le_refl _) _
  have hs1 : W1.heap.size = w.heap.size + 1 := by rw [hW1]; exact World.size_alloc _ _
  have o1 : W1.heap[w.heap.size]? = some (.cells #[.int .u8 zk, .int .u8 za, .string s, .int .i64 n, .int .i64 m] 42 (0, 0)) := by rw [hW1]; exact heap_alloc_new w _
  obtain ⟨Q, hQ⟩ : ∃ Q, Q = w.heap.size := ⟨_, rfl⟩
  rw [← hQ] at o1
  have hP : PairD W0 W1 d x st st (Xq Q) := h.more hb1 fun k hk => .inr (by have h1 : k = Q := hk; omega)
  have a0 : W1.cell? ⟨Q, 0, none⟩ = some (.int .u8 zk) := by rw [cell_of_row _ _ _ _ _ _ o1]; rfl
  have a1 : W1.cell? ⟨Q, 1, none⟩ = some (.int .u8 za) := by rw [cell_of_row _ _ _ _ _ _ o1]; rfl
  have a2 : W1.cell? ⟨Q, 2, none⟩ = some (.string s) := by rw [cell_of_row _ _ _ _ _ _ o1]; rfl
  have a3 : W1.cell? ⟨Q, 3, none⟩ = some (.int .i64 n) := by rw [cell_of_row _ _ _ _ _ _ o1]; rfl
  have a4 : W1.cell? ⟨Q, 4, none⟩ = some (.int .i64 m) := by rw [cell_of_row _ _ _ _ _ _ o1]; rfl
  have HP := Lib.hid hP
  have HO := Lib.hid (And.intro o1 hlen)
  have HW1 := Lib.hid hW1
  have HQ := Lib.hid hQ
  clear h hza hs hlen hka hb1 hs1 o1 hQ hP hW1 a1 a2
  go_enter Try.func25, Try.ntmps25
  go_upto_region 1 with fail
  rw [← HW1.out, ← HQ.out]
  go_upto_region 9 with fail
  go_wp2_with fail
  refine (d_arm HP.out n m hn63).mono ?_
  rintro e w2 ⟨rfl, hp1, hk1⟩
  have o2 := (hk1 Q rfl).trans HO.out.1
  have b3 : w2.cell? ⟨Q, 3, none⟩ = some (.int .i64 n) := by rw [cell_of_row _ _ _ _ _ _ o2]; rfl
  have b4 : w2.cell? ⟨Q, 4, none⟩ = some (.int .i64 m) := by rw [cell_of_row _ _ _ _ _ _ o2]; rfl
  have H1 := Lib.hid hp1
  clear hp1 hk1 o2 a3 a4
  go_wp2_with fail
  refine (x_arm H1.out n m hn63).mono ?_
  rintro e w3 ⟨rfl, hp2, _⟩
  have H2 := Lib.hid hp2
  clear hp2
  go_wp2_with fail
  go_ret3
  exact ⟨d, x, _, rfl, H2.out.less (fun _ hk => hk.elim), Nat.le_succ _⟩
set_option maxRecDepth 100000 in
set_option maxHeartbeats 3200000 in
theorem does_lost (h : PairD W0 w d x st st (fun _ => False)) (zk za n m : Int) (s : ByteArray) (hzk : 0 ≤ zk ∧ zk ≤ 255) (hk7 : zk % 7 = 6) (hza : 0 ≤ za ∧ za ≤ 255) (hn63 : n ≤ 9223372036854775807) (hs : s.size ≤ 281474976710656) (hlen : st.files.length < 100000) :
    Calls Try.prog 25 #[.pointer (some ⟨d, 0, none⟩), .pointer (some ⟨x, 0, none⟩), .agg #[.int .u8 zk, .int .u8 za, .string s, .int .i64 n, .int .i64 m]] w fun e w' => DoesTo W0 st.files.length e w' := by
  obtain ⟨ka, hka⟩ : ∃ k : Nat, za % 3 = (k : Int) := ⟨(za % 3).toNat, by omega⟩
  obtain ⟨W1, hW1⟩ : ∃ W1, W1 = w.alloc (.cells #[.int .u8 zk, .int .u8 za, .string s, .int .i64 n, .int .i64 m] 42 (0, 0)) := ⟨_, rfl⟩
  have hb1 : Below w.heap.size w W1 := by rw [hW1]; exact (Below.refl _ _).alloc (Nat.le_refl _) _
  have hs1 : W1.heap.size = w.heap.size + 1 := by rw [hW1]; exact World.size_alloc _ _
  have o1 : W1.heap[w.heap.size]? = some (.cells #[.int .u8 zk, .int .u8 za, .string s, .int .i64 n, .int .i64 m] 42 (0, 0)) := by rw [hW1]; exact heap_alloc_new w _
  obtain ⟨Q, hQ⟩ : ∃ Q, Q = w.heap.size := ⟨_, rfl⟩
  rw [← hQ] at o1
  have hP : PairD W0 W1 d x st st (Xq Q) := h.more hb1 fun k hk => .inr (by have h1 : k = Q := hk; omega)
  have a0 : W1.cell? ⟨Q, 0, none⟩ = some (.int .u8 zk) := by rw [cell_of_row _ _ _ _ _ _ o1]; rfl
  have a1 : W1.cell? ⟨Q, 1, none⟩ = some (.int .u8 za) := by rw [cell_of_row _ _ _ _ _ _ o1]; rfl
  have a2 : W1.cell? ⟨Q, 2, none⟩ = some (.string s) := by rw [cell_of_row _ _ _ _ _ _ o1]; rfl
  have a3 : W1.cell? ⟨Q, 3, none⟩ = some (.int .i64 n) := by rw [cell_of_row _ _ _ _ _ _ o1]; rfl
  have a4 : W1.cell? ⟨Q, 4, none⟩ = some (.int .i64 m) := by rw [cell_of_row _ _ _ _ _ _ o1]; rfl
  have HP := Lib.hid hP
  have HO := Lib.hid (And.intro o1 hlen)
  have HW1 := Lib.hid hW1
  have HQ := Lib.hid hQ
  have hd : ∀ W, PairD W0 W d x st st (Xq Q) → Calls Try.prog 20 #[.pointer (some ⟨d, 0, none⟩), .int .i64 n] W fun e w' => ∃ d2, e = .returned (.pointer (some ⟨d2, 0, none⟩)) ∧ PairD W0 w' d2 x (lostSt n st) st (Xq Q) ∧ Keep (Xq Q) W w' := fun W h => d_lost h n
  have hsy := hP.synced
  have hx : ∀ W d2, PairD W0 W d2 x (lostSt n st) st (Xq Q) → Calls Try.prog 58 #[.pointer (some ⟨x, 0, none⟩), .int .i64 n] W fun e w' => ∃ x2, e = .returned (.pointer (some ⟨x2, 0, none⟩)) ∧ PairD W0 w' d2 x2 (lostSt n st) (lostSt n st) (Xq Q) ∧ Keep (Xq Q) W w' := fun W d2 h => x_lost h n hsy (by omega)
  have HD := Lib.hid hd
  have HX := Lib.hid hx
  have hkk : ∀ w1 w2 : World, Keep (Xq Q) w1 w2 → w1.cell? ⟨Q, 3, none⟩ = some (.int .i64 n) → w2.cell? ⟨Q, 3, none⟩ = some (.int .i64 n) := fun w1 w2 hk q1 => (World.cell?_of_block (a := ⟨Q, 3, none⟩) (hk Q rfl)).trans q1
  have HKK := Lib.hid hkk
  have HS := Lib.hid a3
  clear h hza hs hlen hka hb1 hs1 o1 hQ hP hW1 hd hx hsy hkk a1 a2 a3 a4
  go_enter Try.func25, Try.ntmps25
  go_upto_region 1 with fail
  rw [← HW1.out, ← HQ.out]
  go_upto_region 13 with fail
  go_region_held3 (fun w' => w'.cell? ⟨Q, 3, none⟩ = some (.int .i64 n)) (first | assumption | exact HS.out | exact HKK.out _ _ (by assumption) (by assumption)) (first | (go_at_call 20; ((with_reducible refine (HD.out _ (HP.out.below ((Below.refl _ _).drew))).mono ?_); rintro e wy ⟨d2, rfl, hp1, hk1⟩)) | (go_at_call 58; ((with_reducible refine (HX.out _ _ hp1).mono ?_); rintro e wz ⟨x2, rfl, hp2, hk2⟩)))
  all_goals go_wp2_with fail
  all_goals go_ret3
  all_goals exact ⟨d2, x2, _, rfl, hp2.less (fun _ hk => hk.elim), by show (st.files.map _).length ≤ _; rw [List.length_map]; exact Nat.le_succ _⟩
theorem does_any (h : PairD W0 w d x st st (fun _ => False)) (zk za n m : Int) (s : ByteArray) (hzk : 0 ≤ zk ∧ zk ≤ 255) (hza : 0 ≤ za ∧ za ≤ 255) (hn63 : n ≤ 9223372036854775807) (hs : s.size ≤ 281474976710656) (hlen : st.files.length < 100000) :
    Calls Try.prog 25 #[.pointer (some ⟨d, 0, none⟩), .pointer (some ⟨x, 0, none⟩), .agg #[.int .u8 zk, .int .u8 za, .string s, .int .i64 n, .int .i64 m]] w fun e w' => DoesTo W0 st.files.length e w' := by
  have hc : zk % 7 = 0 ∨ zk % 7 = 1 ∨ zk % 7 = 2 ∨ zk % 7 = 3 ∨ zk % 7 = 4 ∨ zk % 7 = 5 ∨ zk % 7 = 6 := by omega
  rcases hc with e | e | e | e | e | e | e
  · exact does_add h zk za n m s hzk (.inl e) hza hn63 hs hlen
  · exact does_add h zk za n m s hzk (.inr e) hza hn63 hs hlen
  · exact does_mend h zk za n m s hzk e hza hn63 hs hlen
  · exact does_replace h zk za n m s hzk e hza hn63 hs hlen
  · exact does_append h zk za n m s hzk e hza hn63 hs hlen
  · exact does_arm h zk za n m s hzk e hza hn63 hs hlen
  · exact does_lost h zk za n m s hzk e hza hn63 hs hlen
end
end Go.Proofs.Ytmjeanbbhacnaaa
namespace Go.Proofs.Ytmjeanbbhacnaaa
open Go.RowKit
attribute [local go_sem ↓] Go.wp_at_zero Go.wp_at_succ
theorem names_unique {a b : List ByteArray} (ha : a.Pairwise fun x y => x.data.toList ≤ y.data.toList) (hb : b.Pairwise fun x y => x.data.toList ≤ y.data.toList) (h : a.Perm b) : a = b :=
  List.Perm.eq_of_pairwise (le := fun x y : ByteArray => x.data.toList ≤ y.data.toList) (fun _ _ _ _ h1 h2 => ba_inj (List.le_antisymm h1 h2)) ha hb h
theorem sortN_srt {xs : List ByteArray} {L : List Fi} (hL : Srt L) (hp : xs.Perm (L.map (·.name))) : sortN xs = L.map (·.name) := by
  have ht : ∀ x y z : List UInt8, decide (x ≤ y) = true → decide (y ≤ z) = true → decide (x ≤ z) = true := fun x y z h1 h2 => decide_eq_true (List.le_trans (of_decide_eq_true h1) (of_decide_eq_true h2))
  have htot : ∀ x y : List UInt8, (decide (x ≤ y) || decide (y ≤ x)) = true := fun x y => by
    rcases List.le_total x y with e | e
    · simp [e]
    · simp [e]
  refine names_unique ?_ ?_ (List.Perm.trans ?_ hp)
  · unfold sortN
    rw [List.pairwise_map]
    exact (List.pairwise_mergeSort ht htot _).imp fun h => by simpa using h
  · rw [List.pairwise_map]
    exact hL.imp fun h => List.le_of_lt h
  · unfold sortN
    refine ((List.mergeSort_perm _ _).map _).trans (List.Perm.of_eq ?_)
    rw [List.map_map]
    refine (List.map_congr_left fun a _ => ?_).trans (List.map_id _)
    exact ba_inj (by simp)
section
variable {W0 w : World} {d x : Nat} {st : St} {X : Nat → Prop}
set_option maxRecDepth 100000 in
set_option maxHeartbeats 1600000 in
theorem alike_any (h : PairD W0 w d x st st X) (hlen : st.files.length < 1000000) : Calls Try.prog 26 #[.pointer (some ⟨d, 0, none⟩), .pointer (some ⟨x, 0, none⟩)] w fun e w' => e = .returned (.bool true) ∧ Below w.heap.size w w' := by
  obtain ⟨F, K, h1, ⟨st0, ⟨rb, cap, hR, rfl⟩, hl⟩, _, _, _, _, _⟩ := h
  have hnm := names_at h1 (by omega)
  rw [sortN_srt hR.srt (hl.files.map _)] at hnm
  have hml : st.files.length = st0.files.length := hl.files.length_eq
  rw [hml] at hnm
  obtain ⟨m, hm⟩ : ∃ m, m = st0.files.length := ⟨_, rfl⟩
  rw [← hm] at hnm
  have hmI : (m : Int) ≤ 1000000 := by omega
  have gm : (!((m : Int) == (m : Int))) = false := by simp
  have hnamed := h1.named
  obtain ⟨ra, hra⟩ : ∃ ra : Option Addr, ra = rb.map fun b => ⟨b, 0, none⟩ := ⟨_, rfl⟩
  have Hn := Lib.hid hnm
  have H := Lib.hid (And.intro h1 (And.intro hR (And.intro hl (And.intro hm (And.intro hnamed hra)))))
  clear h1 hR hl hnm hml hm hlen hnamed hra
  go_enter Try.func26, Try.ntmps26
  go_wp2_with fail
  refine Hn.out.mono ?_
  rintro e w1 ⟨lb, rfl, hrow, hlb, hb1⟩
  have c0 := (H.out.2.1.below hb1).cell.1
  rw [← H.out.2.2.2.1, ← H.out.2.2.2.2.2] at c0
  have HW := Lib.hid (And.intro hrow hb1)
  clear hrow hlb hb1
  go_wp2_with fail
  clear c0
  go_loopw [6] (fun i wr => ∃ j : Nat, i = .int .i64 j ∧ (j : Int) ≤ m ∧ Below w1.heap.size w1 wr) (fun i _ => m - (intOf i).toNat)
  case atStart => exact ⟨0, rfl, by omega, Below.refl _ _⟩
  case round =>
    obtain ⟨j, rfl, hj, hbx⟩ := hrel
    have hj0 : (0 : Int) ≤ (j : Int) := by omega
    have hbw : Below w.heap.size w wr := HW.out.2.trans (hbx.mono HW.out.2.size)
    by_cases hlt : (j : Int) < (m : Int)
    · have hjl : j < st0.files.length := by have := H.out.2.2.2.1; omega
      have hR := H.out.2.1.below hbw
      have c0 := hR.cell.1
      rw [← H.out.2.2.2.1, ← H.out.2.2.2.2.2] at c0
      obtain ⟨b, hb, hbl, q0, q1, _, _⟩ := hR.file j hjl
      have ea : ra = some ⟨b, 0, none⟩ := by rw [H.out.2.2.2.2.2, hb]; rfl
      have cN := (HW.out.1.kept (hbx.block lb HW.out.1.lt)).cell j (by rw [List.length_map]; exact hjl)
      rw [List.getElem_map] at cN
      have hrd := read_at (H.out.1.kept fun k hk => hbw.block k (H.out.1.lt hk)) st0.files[j].name
      have hT : rdText st.files st0.files[j].name = txt st0.files[j].bytes := by
        unfold rdText
        rw [fget_perm H.out.2.2.2.2.1 H.out.2.2.1.files, fget_mem H.out.2.1.srt.named (List.getElem_mem hjl)]
        rfl
      rw [hT] at hrd
      obtain ⟨y, hy⟩ : ∃ y, y = st0.files[j].name := ⟨_, rfl⟩
      obtain ⟨T, hTT⟩ : ∃ T, T = txt st0.files[j].bytes := ⟨_, rfl⟩
      rw [← hy] at q0 cN hrd
      rw [← hTT] at q1 hrd
      have g1 : (!(y.toList == y.toList)) = false := by simp
      have g2 : (!(T.toList == T.toList)) = false := by simp
      have Hrd := Lib.hid hrd
      have Hbx := Lib.hid hbx
      subst ea
      clear hR hb hbl hrd hT hy hTT hbx hbw
      go_wp2_with fail
      refine Hrd.out.mono ?_
      rintro e w2 ⟨rfl, rfl⟩
      go_upto_region 8 with fail
      go_quiet (fail)
      go_wp2_with fail
      exact ⟨⟨j + 1, by go_num, by omega, Hbx.out.trans ⟨rfl, rfl, rfl, Nat.le_refl _, fun _ _ => rfl⟩⟩, by simp [intOf]; omega⟩
    · have Hbw := Lib.hid hbw
      clear hbw hbx
      go_wp2_with fail
      go_ret
      exact ⟨rfl, Hbw.out⟩
end
theorem list_ba_inj : ∀ {a b : List ByteArray}, a.map (·.data.toList) = b.map (·.data.toList) → a = b
  | [], [], _ => rfl
  | [], _ :: _, h => by simp at h
  | _ :: _, [], h => by simp at h
  | x :: r, y :: t, h => by
    simp only [List.map_cons, List.cons.injEq] at h
    rw [ba_inj h.1, list_ba_inj h.2]
/-- A deed; a list of deeds that came in. -/
structure Dd where
  zk : Int
  za : Int
  s : ByteArray
  n : Int
  m : Int
def DeedsArg (w : World) (v : Value) (xs : List Dd) : Prop :=
  ∃ (a : Option Addr) (len cap : Nat), v = .slice a len cap ∧ xs.length = len ∧ len ≤ cap ∧ (cap : Int) ≤ 9223372036854775807 ∧ ∀ i (h : i < xs.length), ∃ b o, a = some ⟨b, o, none⟩ ∧ b < w.heap.size ∧
    w.cell? ⟨b, o + i * 5, none⟩ = some (.int .u8 xs[i].zk) ∧ w.cell? ⟨b, o + i * 5 + 1, none⟩ = some (.int .u8 xs[i].za) ∧ w.cell? ⟨b, o + i * 5 + 2, none⟩ = some (.string xs[i].s) ∧ w.cell? ⟨b, o + i * 5 + 3, none⟩ = some (.int .i64 xs[i].n) ∧ w.cell? ⟨b, o + i * 5 + 4, none⟩ = some (.int .i64 xs[i].m) ∧
    (0 ≤ xs[i].zk ∧ xs[i].zk ≤ 255) ∧ (0 ≤ xs[i].za ∧ xs[i].za ≤ 255) ∧ xs[i].n ≤ 9223372036854775807 ∧ xs[i].s.size ≤ 140737488351232
set_option maxRecDepth 100000 in
set_option maxHeartbeats 3200000 in
theorem rplays_walk (room : Int) (hr0 : 0 ≤ room ∧ room ≤ 65535) (v : Value) (xs : List Dd) (w : World) (hv : DeedsArg w v xs) :
    Calls Try.prog 4 #[.int .u16 room, v] w fun e w' => e = .returned (.bool true) ∧ Below w.heap.size w w' := by
  obtain ⟨a, len, cap, rfl, hxl, hlc, hcap, hget⟩ := hv
  have hex := examples07 w
  have HV := Lib.hid (And.intro hxl hget)
  have Hex := Lib.hid hex
  have hlcI : (len : Int) ≤ (cap : Int) := by omega
  obtain ⟨hr1, hr2⟩ := hr0
  clear hxl hget hlc hex
  go_enter Try.func4, Try.ntmps4
  go_wp2_with fail
  refine Hex.out.mono ?_
  rintro e w1 ⟨rfl, hb1⟩
  have hn := d_new hb1 room hr1 (by omega)
  have Hn := Lib.hid hn
  clear hn hb1 Hex
  go_wp2_with fail
  refine Hn.out.mono ?_
  rintro e w2 ⟨d, rfl, h2⟩
  have hn := x_new h2 hr1 (by omega)
  have Hx := Lib.hid hn
  clear hn h2 Hn
  go_wp2_with fail
  refine Hx.out.mono ?_
  rintro e w3 ⟨x, rfl, h3⟩
  have H3 := Lib.hid h3
  clear h3 Hx
  go_wp2_with fail
  go_loopw [6, 8, 9] (fun dv xv i wr => ∃ (j d x : Nat) (st : St), dv = .pointer (some ⟨d, 0, none⟩) ∧ xv = .pointer (some ⟨x, 0, none⟩) ∧ i = .int .i64 j ∧ (j : Int) ≤ (len : Int) ∧ (j : Int) ≤ 40 ∧ PairD w wr d x st st (fun _ => False) ∧ st.files.length ≤ j) (fun _ _ i _ => len - (intOf i).toNat)
  case atStart => exact ⟨0, d, x, _, rfl, rfl, rfl, by omega, by omega, H3.out, Nat.le_refl _⟩
  case round =>
    obtain ⟨j, d, x, st, rfl, rfl, rfl, hj, hj40, hP, hcnt⟩ := hrel
    have HP := Lib.hid (And.intro hP hcnt)
    clear hP hcnt
    have hj0 : (0 : Int) ≤ (j : Int) := by omega
    by_cases hlt : (j : Int) < (len : Int)
    · by_cases h40 : (j : Int) < 40
      · have hjl : j < xs.length := by have := HV.out.1; omega
        obtain ⟨b, o, rfl, hbl, d0, d1, d2, d3, d4, r0, r1, r2, r3⟩ := HV.out.2 j hjl
        have hwb := HP.out.1.world
        have hkA : ∀ W, Below w.heap.size w W → W.cell? ⟨b, o + j * 5 + 1, none⟩ = w.cell? ⟨b, o + j * 5 + 1, none⟩ := fun W hW => World.cell?_of_block (a := ⟨b, o + j * 5 + 1, none⟩) (hW.block b hbl)
        have hk := fun (o : Nat) => World.cell?_of_block (a := ⟨b, o, none⟩) (hwb.block b hbl)
        obtain ⟨u, hu⟩ : ∃ u, u = xs[j] := ⟨_, rfl⟩
        rw [← hu] at d0 d1 d2 d3 d4 r0 r1 r2 r3
        have e0 := (hk _).trans d0
        have e1 := (hk _).trans d1
        have e2 := (hk _).trans d2
        have e3 := (hk _).trans d3
        have e4 := (hk _).trans d4
        obtain ⟨ka, hka⟩ : ∃ k : Nat, u.za % 3 = (k : Int) := ⟨(u.za % 3).toNat, by omega⟩
        obtain ⟨NM, hNM⟩ : ∃ NM, NM = nmD ka := ⟨_, rfl⟩
        have hnm : ∀ W, Calls Try.prog 28 #[.int .u8 u.za] W fun e w' => e = .returned (.string NM) ∧ Below W.heap.size W w' := fun W => by rw [hNM]; exact name_any W u.za r1 ka hka
        have hd := does_any HP.out.1 u.zk u.za u.n u.m u.s r0 r1 r2 (by omega) (by have := HP.out.2; omega)
        have HNm := Lib.hid hnm
        have Hd := Lib.hid hd
        have HA := Lib.hid (And.intro hkA d1)
        clear d0 d1 d2 d3 d4 r0 r1 r2 r3 hd hk hwb hu hbl hka hNM hnm hkA
        go_wp2_with fail
        refine Hd.out.mono ?_
        rintro e w4 ⟨d', x', st', rfl, hP4, hcnt4⟩
        have h41 : st'.files.length ≤ j + 1 := by have := HP.out.2; omega
        have H4 := Lib.hid (And.intro hP4 h41)
        clear hP4 hcnt4 h41 e0 e1 e2 e3 e4
        go_wp2_with fail
        refine (alike_any H4.out.1 (by have := H4.out.2; omega)).mono ?_
        rintro e w5 ⟨rfl, hb5⟩
        have h5 := H4.out.1.below hb5
        have a5 := (HA.out.1 _ h5.world).trans HA.out.2
        have H5 := Lib.hid h5
        clear hb5 h5
        go_wp2_with fail
        refine (HNm.out _).mono ?_
        rintro e w6 ⟨rfl, hb6⟩
        have H6 := Lib.hid (H5.out.below hb6)
        clear hb6 a5
        go_wp2_with fail
        refine (d_whole H6.out NM).mono ?_
        rintro e w7 ⟨rfl, hb7⟩
        obtain ⟨T, hT⟩ : ∃ T : ByteArray, T = ⟨((wholeL (rdL st' NM)).getD []).toArray⟩ := ⟨_, rfl⟩
        obtain ⟨B, hB⟩ : ∃ B, B = (wholeL (rdL st' NM)).isSome := ⟨_, rfl⟩
        rw [← hT, ← hB]
        have h7 := H6.out.below hb7
        have a7 := (HA.out.1 _ h7.world).trans HA.out.2
        have H7 := Lib.hid h7
        have HTB := Lib.hid (And.intro hT hB)
        clear hb7 h7 hT hB
        go_wp2_with fail
        refine (HNm.out _).mono ?_
        rintro e w8 ⟨rfl, hb8⟩
        have H8 := Lib.hid (H7.out.below hb8)
        have hxw := x_whole H8.out NM (by have := H4.out.2; omega)
        rw [← HTB.out.1, ← HTB.out.2] at hxw
        have Hxw := Lib.hid hxw
        clear hb8 a7 hxw
        go_wp2_with fail
        refine Hxw.out.mono ?_
        rintro e w9 ⟨rfl, hb9⟩
        have h9 := H8.out.below hb9
        have a9 := (HA.out.1 _ h9.world).trans HA.out.2
        have H9 := Lib.hid h9
        clear hb9 h9
        have hda : ∀ W, PairD w W d' x' st' st' (fun _ => False) → Calls Try.prog 31 #[.pointer (some ⟨d', 0, none⟩), .string NM] W fun e w' => ∃ (gb : Option Nat) (cap : Nat) (ns : List ByteArray),
            e = .returned (.slice (gb.map fun b => ⟨b, 0, none⟩) ns.length cap) ∧ (SRowO w' gb cap ns ∧ ns.map (·.data.toList) = framesL (rdL st' NM)) ∧ Below W.heap.size W w' := fun W h => d_all h NM
        have hxa : ∀ W, PairD w W d' x' st' st' (fun _ => False) → Calls Try.prog 32 #[.pointer (some ⟨x', 0, none⟩), .string NM] W fun e w' => ∃ (gb : Option Nat) (cap : Nat) (ns : List ByteArray),
            e = .returned (.slice (gb.map fun b => ⟨b, 0, none⟩) ns.length cap) ∧ (SRowO w' gb cap ns ∧ ns.map (·.data.toList) = framesL (rdL st' NM)) ∧ Below W.heap.size W w' := fun W h => x_all h NM (by have := H4.out.2; omega)
        have hfl : (framesL (rdL st' NM)).length ≤ 9223372036854775807 := by
          obtain ⟨p, h1, h2, h3⟩ := framesL_size (rdL st' NM)
          have h4 := h1.size.2.2
          have h5 := rdText_size H9.out.small NM
          have h6 : (rdL st' NM).length = (rdText st'.files NM).size := list_size _
          omega
        have hsm : ∀ (wa wb wc : World) (g1 g2 : Option Nat) (c1 c2 : Nat) (n1 n2 : List ByteArray), (SRowO wa g1 c1 n1 ∧ n1.map (·.data.toList) = framesL (rdL st' NM)) → Below wa.heap.size wa wb → Below wb.heap.size wb wc → (SRowO wc g2 c2 n2 ∧ n2.map (·.data.toList) = framesL (rdL st' NM)) →
            Calls Try.prog 30 #[.slice (g1.map fun b => ⟨b, 0, none⟩) n1.length c1, .slice (g2.map fun b => ⟨b, 0, none⟩) n2.length c2] wc fun e w' => e = .returned (.bool true) ∧ Below wc.heap.size wc w' := fun wa wb wc g1 g2 c1 c2 n1 n2 h1 hab hbc h2 => by
          have e : n1 = n2 := list_ba_inj (h1.2.trans h2.2.symm)
          have hl1 : n1.length ≤ 9223372036854775807 := by have := congrArg List.length h1.2; rw [List.length_map] at this; omega
          subst e
          exact same_true (((h1.1.arg hl1).below hab).below hbc) (h2.1.arg hl1)
        have hkb : ∀ w1 w2 : World, Below w1.heap.size w1 w2 → w1.cell? ⟨b, o + j * 5 + 1, none⟩ = some (.int .u8 u.za) → w2.cell? ⟨b, o + j * 5 + 1, none⟩ = some (.int .u8 u.za) := fun w1 w2 hb q => (World.cell?_of_block (a := ⟨b, o + j * 5 + 1, none⟩) (hb.block b (World.block_lt_of_cell? w1 ⟨b, o + j * 5 + 1, none⟩ q))).trans q
        have HDA := Lib.hid hda
        have HXA := Lib.hid hxa
        have HSM := Lib.hid hsm
        have HKB := Lib.hid hkb
        have HS := Lib.hid a9
        have gT : (!(T.toList == T.toList)) = false := by simp
        have gB1 : (B != B) = false := by simp
        have gB2 : (B == B) = true := by simp
        clear hda hxa hsm hkb hfl a9
        go_upto_region 18 with fail
        go_region_held3 (fun w' => w'.cell? ⟨b, o + j * 5 + 1, none⟩ = some (.int .u8 u.za)) (first | assumption | exact HS.out | exact HKB.out _ _ (by assumption) (by assumption)) (first | (go_at_call 28; ((with_reducible refine (HNm.out _).mono ?_); rintro e wx ⟨rfl, hbx⟩)) | (go_at_call 31; ((with_reducible refine (HDA.out _ ((H9.out.below ((Below.refl _ _).drew)).below hbx)).mono ?_); (rintro e wy ⟨gb1, cp1, ns1, rfl, hA1, hby⟩; have hp1 := ((H9.out.below ((Below.refl _ _).drew)).below hbx).below hby))) | (go_at_call 32; ((with_reducible refine (HXA.out _ (hp1.below hbx)).mono ?_); (rintro e wz ⟨gb2, cp2, ns2, rfl, hA2, hbz⟩; have hp2 := (hp1.below hbx).below hbz))) | (go_at_call 30; ((with_reducible refine (HSM.out _ _ _ _ _ _ _ _ _ hA1 hbx hbz hA2).mono ?_); rintro e wq ⟨rfl, hbq⟩)))
        all_goals go_wp2_with fail
        all_goals exact ⟨⟨j + 1, d', x', st', rfl, rfl, by go_num, by omega, by omega, hp2.below hbq, H4.out.2⟩, by simp [intOf]; omega⟩
      · go_wp2_with fail
        go_ret
        exact ⟨rfl, HP.out.1.world⟩
    · go_wp2_with fail
      go_ret
      exact ⟨rfl, HP.out.1.world⟩
end Go.Proofs.Ytmjeanbbhacnaaa
namespace Go.Proofs.Ytmjeanbbhacnaaa
open Go.RowKit Go.ChangeShapes Go.WideShapes Go.Joins Go.Deep
theorem sized_at {H : Type} {P : Program} {ts : List TypeId} {ds : List (DataW H)} (h : (DataW.weightsEach P ts ds).all (· ≤ reachBytes) = true) {j : Nat} {t : TypeId} {d : DataW H} (ht : ts[j]? = some t) (hd : ds[j]? = some d) :
    ∀ y ∈ DataW.weights P t d, y ≤ reachBytes := fun y hy => by
  have := List.all_eq_true.1 h _ (DataW.weights_mem_each ht hd y hy)
  simpa using this
theorem list_pick {α : Type} (Q : Nat → α → Prop) : ∀ n, (∀ i, i < n → ∃ x, Q i x) → ∃ l : List α, l.length = n ∧ ∀ i (h : i < l.length), Q i l[i]
  | 0, _ => ⟨[], rfl, fun i h => absurd h (Nat.not_lt_zero _)⟩
  | n + 1, h => by
    obtain ⟨l, h1, h2⟩ := list_pick Q n fun i hi => h i (by omega)
    obtain ⟨x, hx⟩ := h n (by omega)
    refine ⟨l ++ [x], by simp [h1], fun i hi => ?_⟩
    by_cases e : i < l.length
    · rw [List.getElem_append_left e]; exact h2 i e
    · have e2 : i = n := by simp at hi; omega
      subst e2
      rw [List.getElem_append_right (by omega)]
      simpa [h1] using hx
section
variable {H : Type} {enc : TypeId × Value → H} {w : World} {base : Nat} {spare : Nat → Bool} {held : Bool}
theorem weightsAll_mem {P : Program} {e : TypeId} : ∀ {l : List (DataW H)} {d : DataW H} {y : Nat}, d ∈ l → y ∈ DataW.weights P e d → y ∈ DataW.weightsAll P e l
  | x :: r, d, y, hd, hy => by
    unfold DataW.weightsAll
    rcases List.mem_cons.1 hd with rfl | hd
    · exact List.mem_append_left _ hy
    · exact List.mem_append_right _ (weightsAll_mem hd hy)
theorem spot_none {a : Addr} {v : Value} (h : w.cell? a = some v) : a.spot = none := by
  unfold World.cell? at h
  cases hs : a.spot with
  | none => rfl
  | some x =>
    rw [hs] at h
    simp only [Option.isSome_some, if_true] at h
    split at h <;> cases h
theorem add_plain (b o k : Nat) : (⟨b, o, none⟩ : Addr).add k = ⟨b, o + k, none⟩ := by unfold Addr.add; split <;> simp_all
theorem deed_sizes : Try.prog.cellsOf 42 = 5 := by kernel_rfl
theorem u8_bounds {z : Int} (h : (Lit.int .u8 z).wf = true) : 0 ≤ z ∧ z ≤ 255 := by
  simp only [Lit.wf, IntKind.min, IntKind.max, IntKind.signed, IntKind.bits, Bool.and_eq_true] at h
  simpa using h
theorem u16_bounds {z : Int} (h : (Lit.int .u16 z).wf = true) : 0 ≤ z ∧ z ≤ 65535 := by
  simp only [Lit.wf, IntKind.min, IntKind.max, IntKind.signed, IntKind.bits, Bool.and_eq_true] at h
  simpa using h
theorem i64_bounds {z : Int} (h : (Lit.int .i64 z).wf = true) : -9223372036854775808 ≤ z ∧ z ≤ 9223372036854775807 := by
  simp only [Lit.wf, IntKind.min, IntKind.max, IntKind.signed, IntKind.bits, Bool.and_eq_true] at h
  simpa using h
set_option maxRecDepth 100000 in
theorem open_deedsarg {b0 : Nat} {r : Reach} {v : Value} {d : DataW H} {p : List MemPlace} (hv : Value.okWide Try.prog w r b0 36 v) (h : DataW.Trod enc Try.prog w base spare held 36 v d p) (hw : ∀ y ∈ DataW.weights Try.prog 36 d, y ≤ reachBytes) : ∃ xs, DeedsArg w v xs := by
  have s5 := deed_sizes
  obtain ⟨a0, len0, cap0, rfl⟩ := okWide_slice Try.underlying36 hv
  obtain ⟨fuel, hf⟩ := h
  rcases open_slice Try.underlying36 hf with ⟨hcs, _⟩ | ⟨a, len, cap, m, n, D, Pl, hcs, hb, hl, hm, hmm, hx, hi⟩
  · have e : (Value.slice a0 len0 cap0).cells.toList = [.slice a0 len0 cap0] := rfl
    have e2 := e.symm.trans hcs
    cases e2
    exact ⟨[], none, 0, 0, rfl, rfl, Nat.le_refl _, by omega, fun i hi => absurd hi (Nat.not_lt_zero _)⟩
  · have e : (Value.slice a0 len0 cap0).cells.toList = [.slice a0 len0 cap0] := rfl
    have e2 := e.symm.trans hcs
    cases e2
    have hlm : len0 ≤ m := by rw [hmm]; split <;> omega
    obtain ⟨xs, h1, h2⟩ := list_pick (fun i (u : Dd) => w.cell? (a.add (i * 5)) = some (.int .u8 u.zk) ∧ w.cell? (a.add (i * 5 + 1)) = some (.int .u8 u.za) ∧ w.cell? (a.add (i * 5 + 2)) = some (.string u.s) ∧ w.cell? (a.add (i * 5 + 3)) = some (.int .i64 u.n) ∧ w.cell? (a.add (i * 5 + 4)) = some (.int .i64 u.m) ∧
      (0 ≤ u.zk ∧ u.zk ≤ 255) ∧ (0 ≤ u.za ∧ u.za ≤ 255) ∧ u.n ≤ 9223372036854775807 ∧ u.s.size ≤ reachBytes) len0 (fun i hil => by
      obtain ⟨cs', hc, ht⟩ := hi i (by omega)
      rw [s5] at hc
      obtain ⟨ys, n', _, hy, _, hyl, hf⟩ := DataW.trod_struct Try.underlying42 ht
      obtain ⟨_, hcl, hat⟩ := World.cells?_some hc
      match ys, hyl, cs', hcl with
      | [y0, y1, y2, y3, y4], _, [c0, c1, c2, c3, c4], _ =>
        have t0 := hf 0 _ rfl
        have t1 := hf 1 _ rfl
        have t2 := hf 2 _ rfl
        have t3 := hf 3 _ rfl
        have t4 := hf 4 _ rfl
        simp only [List.getElem?_cons_zero, List.getElem?_cons_succ] at t0 t1 t2 t3 t4
        have q0 := hat 0 (by omega)
        have q1 := hat 1 (by omega)
        have q2 := hat 2 (by omega)
        have q3 := hat 3 (by omega)
        have q4 := hat 4 (by omega)
        simp only [Go.Deep.add_add, List.getElem?_cons_zero, List.getElem?_cons_succ, Nat.add_zero] at q0 q1 q2 q3 q4
        obtain ⟨k0, e0, _, w0⟩ := DataW.trod_int Try.underlying5 t0
        obtain ⟨k1, e1, _, w1⟩ := DataW.trod_int Try.underlying5 t1
        obtain ⟨k2, e2, hd2, w2⟩ := DataW.trod_string Try.underlying9 t2
        obtain ⟨k3, e3, _, w3⟩ := DataW.trod_int Try.underlying3 t3
        obtain ⟨k4, e4, _, w4⟩ := DataW.trod_int Try.underlying3 t4
        cases e0; cases e1; cases e2; cases e3; cases e4
        have hz : k2.data.toList.length ≤ reachBytes := hw _ (by
          rw [show d = _ from congrArg Prod.fst hx]
          simp only [DataW.weights, Try.underlying36]
          refine List.mem_cons_of_mem _ (List.mem_append_left _ (weightsAll_mem (d := D i) (List.mem_map.2 ⟨i, List.mem_range.2 hil, rfl⟩) ?_))
          rw [show D i = _ from congrArg Prod.fst hy]
          simp only [List.map_cons, List.map_nil, DataW.weights, Try.underlying42]
          simp [DataW.weightsEach, hd2, DataW.weights])
        exact ⟨⟨k0, k1, k2, k3, k4⟩, q0, q1, q2, q3, q4, u8_bounds w0, u8_bounds w1, (i64_bounds w3).2, by rw [← list_size]; exact hz⟩)
    refine ⟨xs, some a, len0, cap0, rfl, h1, hl, by unfold maxLen at hm; omega, fun i hil => ?_⟩
    have h0 : 0 < xs.length := by omega
    obtain ⟨k0, _⟩ := h2 0 h0
    obtain ⟨bb, o, sp⟩ := a
    have hsp : sp = none := by
      have := spot_none k0
      rw [show (⟨bb, o, sp⟩ : Addr).add (0 * 5) = ⟨bb, o, sp⟩ from rfl] at this
      exact this
    subst hsp
    obtain ⟨c0, c1, c2, c3, c4, b0, b1, b2, b3⟩ := h2 i hil
    rw [add_plain] at c0 c1 c2 c3 c4
    exact ⟨bb, o, rfl, World.block_lt_of_cell? w ⟨bb, o + i * 5, none⟩ c0, c0, by rw [Nat.add_assoc]; exact c1, by rw [Nat.add_assoc]; exact c2, by rw [Nat.add_assoc]; exact c3, by rw [Nat.add_assoc]; exact c4, b0, b1, b2, by rw [← show reachBytes = 140737488351232 from rfl]; exact b3⟩
end
end Go.Proofs.Ytmjeanbbhacnaaa
