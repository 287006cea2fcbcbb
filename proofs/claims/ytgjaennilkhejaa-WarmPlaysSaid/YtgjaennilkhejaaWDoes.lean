/- The walk of does, of the law WarmPlays: one deed on both sets. The bound: at most 10^6 changes. -/
import Derived.Test.YtgjaennilkhejaaWPair
namespace Go.Proofs.Ytgjaennilkhejaa
open Go.RowKit
attribute [local go_sem ↓] Go.wp_at_zero Go.wp_at_succ
/-- One of three addresses. -/
def nmA (k : Nat) : ByteArray := if k = 0 then ⟨#[97]⟩ else if k = 1 then ⟨#[98]⟩ else ⟨#[99]⟩
def DoesTo (W0 : World) (s x : Nat) (L : List Ch) (l : Lg) (w' : World) : Prop := ∃ L', Pair W0 w' s x L' L' (fun _ => False) ∧ L'.length ≤ L.length + 1 ∧ ∀ y ∈ logsOf L', y ∈ logsOf L ∨ y = l
theorem logs_note {f : Fin 4} {v : Value} {L : List Ch} {y : Lg} (h : y ∈ logsOf (noteL f v L)) : y ∈ logsOf L := by
  by_cases hin : v ∈ keysOf f L
  · rw [noteL_had hin] at h; exact h
  · rw [noteL_new hin, logsOf_snoc] at h
    simpa [logIn] using h
section
variable {W0 w : World} {s x : Nat} {L : List Ch}
set_option maxRecDepth 100000 in
set_option maxHeartbeats 3200000 in
theorem does_c (h : Pair W0 w s x L L (fun _ => False)) (zk za zs n : Int) (hzk : 0 ≤ zk ∧ zk ≤ 255) (hza : 0 ≤ za ∧ za ≤ 255) (hzs : 0 ≤ zs ∧ zs ≤ 255) (l : Lg) (ta : Option Addr) (tc : Nat) (hv : VArg 4 W0 ta tc l.topics.length (W4s l.topics)) (hby : l.topics.length * 32 ≤ 281474976710656)
    (hlen : L.length < 1000) :
    Calls Try.prog 24 #[.pointer (some ⟨s, 0, none⟩), .pointer (some ⟨x, 0, none⟩), .agg #[.int .u8 zk, .int .u8 za, .int .u8 zs, .int .i64 n, .string l.addr, .slice ta l.topics.length tc, .string l.data]] w fun e w' =>
      e = .returned (.bool true) ∧ DoesTo W0 s x L l w' := by
  obtain ⟨tl, htl⟩ : ∃ tl, tl = l.topics.length := ⟨_, rfl⟩
  rw [← htl]
  obtain ⟨ka, hka⟩ : ∃ k : Nat, za % 3 = (k : Int) := ⟨(za % 3).toNat, by omega⟩
  have hka3 : (ka : Int) < 3 := by omega
  have hka0 : (0 : Int) ≤ (ka : Int) := by omega
  obtain ⟨ks, hks⟩ : ∃ k : Nat, zs % 3 = (k : Int) := ⟨(zs % 3).toNat, by omega⟩
  have hks3 : (ks : Int) < 3 := by omega
  have hks0 : (0 : Int) ≤ (ks : Int) := by omega
  obtain ⟨X, hX⟩ : ∃ X, X = nmA ka := ⟨_, rfl⟩
  obtain ⟨W1, hW1⟩ : ∃ W1, W1 = w.alloc (.cells #[.int .u8 zk, .int .u8 za, .int .u8 zs, .int .i64 n, .string l.addr, .slice ta tl tc, .string l.data] 58 (0, 0)) := ⟨_, rfl⟩
  have hb1 : Below w.heap.size w W1 := by rw [hW1]; exact (Below.refl _ _).alloc (Nat.le_refl _) _
  have hs1 : W1.heap.size = w.heap.size + 1 := by rw [hW1]; exact World.size_alloc _ _
  have o1 : W1.heap[w.heap.size]? = some (.cells #[.int .u8 zk, .int .u8 za, .int .u8 zs, .int .i64 n, .string l.addr, .slice ta tl tc, .string l.data] 58 (0, 0)) := by rw [hW1]; exact heap_alloc_new w _
  obtain ⟨W2, hW2⟩ : ∃ W2, W2 = W1.alloc (.cells #[.string ⟨#[97]⟩, .string ⟨#[98]⟩, .string ⟨#[99]⟩] 9 (0, 0)) := ⟨_, rfl⟩
  have hb2 : Below W1.heap.size W1 W2 := by rw [hW2]; exact (Below.refl _ _).alloc (Nat.le_refl _) _
  have cX : W2.cell? ⟨W1.heap.size, ka, none⟩ = some (.string X) := by
    rw [hW2, cell_of_row _ _ _ _ _ _ (heap_alloc_new W1 _), hX]
    have : ka = 0 ∨ ka = 1 ∨ ka = 2 := by omega
    rcases this with rfl | rfl | rfl <;> rfl
  have o2 := (hb2.block _ (by omega)).trans o1
  obtain ⟨Q, hQ⟩ : ∃ Q, Q = w.heap.size := ⟨_, rfl⟩
  rw [← hQ] at o2
  have a0 : W2.cell? ⟨Q, 0, none⟩ = some (.int .u8 zk) := by rw [cell_of_row _ _ _ _ _ _ o2]; rfl
  have a1 : W2.cell? ⟨Q, 1, none⟩ = some (.int .u8 za) := by rw [cell_of_row _ _ _ _ _ _ o2]; rfl
  have a2 : W2.cell? ⟨Q, 2, none⟩ = some (.int .u8 zs) := by rw [cell_of_row _ _ _ _ _ _ o2]; rfl
  have hw2 := hW2.symm
  have HW1 := Lib.hid hW1
  have HQ := Lib.hid hQ
  have H := Lib.hid (And.intro h (And.intro hv (And.intro hby (And.intro hlen (And.intro htl (And.intro hX (And.intro hb1 (And.intro hb2 (And.intro hs1 (And.intro o2 hW2))))))))))
  clear h hv hby hlen htl hX hb1 hb2 hs1 o1 o2 hW1 hW2 hQ
  go_enter Try.func24, Try.ntmps24
  go_upto_region 1 with fail
  rw [← HW1.out, ← HQ.out]
  go_upto_region 3 with fail
  obtain ⟨V, hV⟩ : ∃ V, V = W2.heap.size := ⟨_, rfl⟩
  obtain ⟨W3, hW3⟩ : ∃ W3, W3 = W2.alloc (.cells #[.int .u64 0, .int .u64 0, .int .u64 0, .int .u64 (ks : Int)] 24 (0, 0)) := ⟨_, rfl⟩
  rw [← hV, ← hW3]
  obtain ⟨h, hv, hby, hlen, htl, hX, hb1, hb2, hs1, o2, hW2⟩ := H.out
  have hs2 : W2.heap.size = W1.heap.size + 1 := by rw [hW2]; exact World.size_alloc _ _
  have hb3 : Below W2.heap.size W2 W3 := by rw [hW3]; exact (Below.refl _ _).alloc (Nat.le_refl _) _
  have hs3 : W3.heap.size = W2.heap.size + 1 := by rw [hW3]; exact World.size_alloc _ _
  have o3 := (hb3.block Q (by have := lt_of_block o2; omega)).trans o2
  have v3 : W3.heap[V]? = some (.cells #[.int .u64 0, .int .u64 0, .int .u64 0, .int .u64 (ks : Int)] 24 (0, 0)) := by rw [hV, hW3]; exact heap_alloc_new _ _
  have hbw : Below w.heap.size w W3 := (hb1.trans (hb2.mono hb1.size)).trans (hb3.mono (by have := hb1.size; have := hb2.size; omega))
  have hP : Pair W0 W3 s x L L (fun k => k = Q ∨ k = V) := h.more hbw fun k hk => .inr (by have := HQ.out; rcases hk with rfl | rfl <;> omega)
  have a0 : W3.cell? ⟨Q, 0, none⟩ = some (.int .u8 zk) := by rw [cell_of_row _ _ _ _ _ _ o3]; rfl
  have HP := Lib.hid hP
  have HO := Lib.hid (And.intro o3 v3)
  have HL := Lib.hid (And.intro hlen (And.intro htl (And.intro hby hv)))
  have HX : Hid (X.size ≤ maxLen) := Lib.hid (by rw [hX]; unfold nmA maxLen; split <;> (try split) <;> decide)
  have hc7 : zk % 7 = 0 ∨ zk % 7 = 1 ∨ zk % 7 = 2 ∨ zk % 7 = 3 ∨ zk % 7 = 4 ∨ zk % 7 = 5 ∨ zk % 7 = 6 := by omega
  clear h hv hby hlen htl hX hb1 hb2 hs1 o2 hW2 hV hW3 hs2 hb3 hs3 o3 v3 hbw hP cX a1 a2 hw2 H
  rcases hc7 with hk7 | hk7 | hk7 | hk7 | hk7 | hk7 | hk7
  · go_wp2_with fail
    refine (s_hasAddr HP.out X).mono ?_
    rintro e w4 ⟨rfl, h4, _⟩
    have H4 := Lib.hid h4
    clear h4
    go_wp2_with fail
    refine (r_hasAddr H4.out X (by have := HL.out.1; omega)).mono ?_
    rintro e w5 ⟨rfl, h5, _⟩
    have H5 := Lib.hid h5
    clear h5
    go_wp2_with fail
    refine (s_addr H5.out X (by have := HL.out.1; omega)).mono ?_
    rintro e w6 ⟨rfl, h6, _⟩
    have H6 := Lib.hid h6
    clear h6
    go_wp2_with fail
    refine (r_addr H6.out X (by have := HL.out.1; omega)).mono ?_
    rintro e w7 ⟨rfl, h7, _⟩
    have H7 := Lib.hid h7
    clear h7
    go_wp2_with fail
    go_ret
    exact ⟨rfl, _, H7.out.less (fun _ hk => hk.elim), noteL_length _ _ _, fun y hy => .inl (logs_note hy)⟩
  · have hok : SlotOk (slotV X ⟨0, 0, 0, (ks : Int)⟩) := slot_ok HX.out ⟨rfl, rfl, rfl, by show (Lit.int .u64 (ks : Int)).wf = true; exact WalkArith.wf_u64 (n := (ks : Int)) (by omega)⟩
    have hc1 : ∀ W, Pair W0 W s x L L (fun k => k = Q ∨ k = V) → Calls Try.prog 13 #[.pointer (some ⟨s, 0, none⟩), .string X, .agg #[.int .u64 0, .int .u64 0, .int .u64 0, .int .u64 (ks : Int)]] W fun e w' => e = .returned (.bool (hasK 1 (slotV X ⟨0, 0, 0, (ks : Int)⟩) L)) ∧ Pair W0 w' s x L L (fun k => k = Q ∨ k = V) ∧ Keep (fun k => k = Q ∨ k = V) W w' := fun W h => s_hasSlot h X ⟨0, 0, 0, (ks : Int)⟩ hok
    have hc2 : ∀ W, Pair W0 W s x L L (fun k => k = Q ∨ k = V) → Calls Try.prog 38 #[.pointer (some ⟨x, 0, none⟩), .string X, .agg #[.int .u64 0, .int .u64 0, .int .u64 0, .int .u64 (ks : Int)]] W fun e w' => e = .returned (.bool (hasK 1 (slotV X ⟨0, 0, 0, (ks : Int)⟩) L)) ∧ Pair W0 w' s x L L (fun k => k = Q ∨ k = V) ∧ Keep (fun k => k = Q ∨ k = V) W w' := fun W h => r_hasSlot h X ⟨0, 0, 0, (ks : Int)⟩ (by have := HL.out.1; omega)
    have hc3 : ∀ W, Pair W0 W s x L L (fun k => k = Q ∨ k = V) → Calls Try.prog 10 #[.pointer (some ⟨s, 0, none⟩), .string X, .agg #[.int .u64 0, .int .u64 0, .int .u64 0, .int .u64 (ks : Int)]] W fun e w' => e = .returned (.bool (hasK 1 (slotV X ⟨0, 0, 0, (ks : Int)⟩) L)) ∧ Pair W0 w' s x (noteL 1 (slotV X ⟨0, 0, 0, (ks : Int)⟩) L) L (fun k => k = Q ∨ k = V) ∧ Keep (fun k => k = Q ∨ k = V) W w' := fun W h => s_slot h X ⟨0, 0, 0, (ks : Int)⟩ hok (by have := HL.out.1; omega)
    have hc4 : ∀ W, Pair W0 W s x (noteL 1 (slotV X ⟨0, 0, 0, (ks : Int)⟩) L) L (fun k => k = Q ∨ k = V) → Calls Try.prog 39 #[.pointer (some ⟨x, 0, none⟩), .string X, .agg #[.int .u64 0, .int .u64 0, .int .u64 0, .int .u64 (ks : Int)]] W fun e w' => e = .returned (.bool (hasK 1 (slotV X ⟨0, 0, 0, (ks : Int)⟩) L)) ∧ Pair W0 w' s x (noteL 1 (slotV X ⟨0, 0, 0, (ks : Int)⟩) L) (noteL 1 (slotV X ⟨0, 0, 0, (ks : Int)⟩) L) (fun k => k = Q ∨ k = V) ∧ Keep (fun k => k = Q ∨ k = V) W w' := fun W h => r_slot h X ⟨0, 0, 0, (ks : Int)⟩ (by have := HL.out.1; omega)
    have hend := fun y hy => logs_note (f := 1) (v := slotV X ⟨0, 0, 0, (ks : Int)⟩) (L := L) (y := y) hy
    have hlen1 := noteL_length 1 (slotV X ⟨0, 0, 0, (ks : Int)⟩) L
    obtain ⟨B, hB⟩ : ∃ B, B = hasK 1 (slotV X ⟨0, 0, 0, (ks : Int)⟩) L := ⟨_, rfl⟩
    obtain ⟨L1, hL1⟩ : ∃ L1, L1 = noteL 1 (slotV X ⟨0, 0, 0, (ks : Int)⟩) L := ⟨_, rfl⟩
    rw [← hB] at hc1 hc2 hc3 hc4
    rw [← hL1] at hc3 hc4 hend hlen1
    have HC1 := Lib.hid hc1
    have HC2 := Lib.hid hc2
    have HC3 := Lib.hid hc3
    have HC4 := Lib.hid hc4
    have HE := Lib.hid (And.intro hend hlen1)
    have v0 : W3.cell? ⟨V, 0, none⟩ = some (.int .u64 0) := by rw [cell_of_row _ _ _ _ _ _ HO.out.2]; rfl
    have v1 : W3.cell? ⟨V, 1, none⟩ = some (.int .u64 0) := by rw [cell_of_row _ _ _ _ _ _ HO.out.2]; rfl
    have v2 : W3.cell? ⟨V, 2, none⟩ = some (.int .u64 0) := by rw [cell_of_row _ _ _ _ _ _ HO.out.2]; rfl
    have v3 : W3.cell? ⟨V, 3, none⟩ = some (.int .u64 (ks : Int)) := by rw [cell_of_row _ _ _ _ _ _ HO.out.2]; rfl
    have hkk : ∀ w1 w2 : World, Keep (fun k => k = Q ∨ k = V) w1 w2 → (w1.cell? ⟨V, 0, none⟩ = some (.int .u64 0) ∧ w1.cell? ⟨V, 1, none⟩ = some (.int .u64 0) ∧ w1.cell? ⟨V, 2, none⟩ = some (.int .u64 0) ∧ w1.cell? ⟨V, 3, none⟩ = some (.int .u64 (ks : Int))) →
        (w2.cell? ⟨V, 0, none⟩ = some (.int .u64 0) ∧ w2.cell? ⟨V, 1, none⟩ = some (.int .u64 0) ∧ w2.cell? ⟨V, 2, none⟩ = some (.int .u64 0) ∧ w2.cell? ⟨V, 3, none⟩ = some (.int .u64 (ks : Int))) := fun w1 w2 hk ⟨q0, q1, q2, q3⟩ => by
      have e := fun o => World.cell?_of_block (a := ⟨V, o, none⟩) (hk V (.inr rfl))
      exact ⟨(e 0).trans q0, (e 1).trans q1, (e 2).trans q2, (e 3).trans q3⟩
    have HK := Lib.hid hkk
    have HS := Lib.hid (And.intro v0 (And.intro v1 (And.intro v2 v3)))
    have gB : (B == B) = true := by simp
    clear hok hc1 hc2 hc3 hc4 hend hlen1 hB hL1 hkk v0 v1 v2 v3
    go_upto_region 7 with fail
    go_region_held3 (fun w' => w'.cell? ⟨V, 0, none⟩ = some (.int .u64 0) ∧ w'.cell? ⟨V, 1, none⟩ = some (.int .u64 0) ∧ w'.cell? ⟨V, 2, none⟩ = some (.int .u64 0) ∧ w'.cell? ⟨V, 3, none⟩ = some (.int .u64 (ks : Int))) (first | assumption | exact HS.out | exact HK.out _ _ (by assumption) (by assumption)) (first | (go_at_call 13; ((with_reducible refine (HC1.out _ (HP.out.below ((Below.refl _ _).drew))).mono ?_); rintro e wx ⟨rfl, hp1, hk1⟩)) | (go_at_call 38; ((with_reducible refine (HC2.out _ hp1).mono ?_); rintro e wx2 ⟨rfl, hp2, hk2⟩)) | (go_at_call 10; ((with_reducible refine (HC3.out _ hp2).mono ?_); rintro e wx3 ⟨rfl, hp3, hk3⟩)) | (go_at_call 39; ((with_reducible refine (HC4.out _ hp3).mono ?_); rintro e wx4 ⟨rfl, hp4, hk4⟩)))
    all_goals go_wp2_with fail
    all_goals go_ret
    all_goals exact ⟨rfl, _, hp4.less (fun _ hk => hk.elim), HE.out.2, fun y hy => .inl (HE.out.1 y hy)⟩
  · go_wp2_with fail
    refine (s_made HP.out X (by have := HL.out.1; omega)).mono ?_
    rintro e w6 ⟨rfl, h6, _⟩
    have H6 := Lib.hid h6
    clear h6
    go_wp2_with fail
    refine (r_made H6.out X (by have := HL.out.1; omega)).mono ?_
    rintro e w7 ⟨rfl, h7, _⟩
    have H7 := Lib.hid h7
    clear h7
    go_wp2_with fail
    go_ret
    exact ⟨rfl, _, H7.out.less (fun _ hk => hk.elim), noteL_length _ _ _, fun y hy => .inl (logs_note hy)⟩
  · have a3 : W3.cell? ⟨Q, 3, none⟩ = some (.int .i64 n) := by rw [cell_of_row _ _ _ _ _ _ HO.out.1]; rfl
    go_wp2_with fail
    refine (s_refund HP.out n (by have := HL.out.1; omega)).mono ?_
    rintro e w6 ⟨rfl, h6, k6⟩
    have b3 : w6.cell? ⟨Q, 3, none⟩ = some (.int .i64 n) := by rw [cell_of_row _ _ _ _ _ _ ((k6 Q (.inl rfl)).trans HO.out.1)]; rfl
    have H6 := Lib.hid h6
    clear h6 k6 a3
    go_wp2_with fail
    refine (r_refund H6.out n (by have := HL.out.1; omega)).mono ?_
    rintro e w7 ⟨rfl, h7, _⟩
    have H7 := Lib.hid h7
    clear h7
    go_wp2_with fail
    go_ret
    exact ⟨rfl, _, H7.out.less (fun _ hk => hk.elim), by simp, fun y hy => .inl (by rw [logsOf_snoc] at hy; simpa [logIn] using hy)⟩
  · have a4 : W3.cell? ⟨Q, 4, none⟩ = some (.string l.addr) := by rw [cell_of_row _ _ _ _ _ _ HO.out.1]; rfl
    have a5 : W3.cell? ⟨Q, 5, none⟩ = some (.slice ta tl tc) := by rw [cell_of_row _ _ _ _ _ _ HO.out.1]; rfl
    have a6 : W3.cell? ⟨Q, 6, none⟩ = some (.string l.data) := by rw [cell_of_row _ _ _ _ _ _ HO.out.1]; rfl
    have hlog := s_log HP.out l ta tc (HL.out.2.2.2.below HP.out.world) HL.out.2.2.1 (by have := HL.out.1; omega)
    rw [← HL.out.2.1] at hlog
    have Hlog := Lib.hid hlog
    clear hlog
    go_wp2_with fail
    refine (Hlog.out).mono ?_
    rintro e w6 ⟨rfl, h6, k6⟩
    have b4 : w6.cell? ⟨Q, 4, none⟩ = some (.string l.addr) := by rw [cell_of_row _ _ _ _ _ _ ((k6 Q (.inl rfl)).trans HO.out.1)]; rfl
    have b5 : w6.cell? ⟨Q, 5, none⟩ = some (.slice ta tl tc) := by rw [cell_of_row _ _ _ _ _ _ ((k6 Q (.inl rfl)).trans HO.out.1)]; rfl
    have b6 : w6.cell? ⟨Q, 6, none⟩ = some (.string l.data) := by rw [cell_of_row _ _ _ _ _ _ ((k6 Q (.inl rfl)).trans HO.out.1)]; rfl
    have hlog2 := r_log h6 l ta tc (HL.out.2.2.2.below h6.world) HL.out.2.2.1 (by have := HL.out.1; omega)
    rw [← HL.out.2.1] at hlog2
    have Hlog2 := Lib.hid hlog2
    clear h6 k6 a4 a5 a6 hlog2
    go_wp2_with fail
    refine (Hlog2.out).mono ?_
    rintro e w7 ⟨rfl, h7, _⟩
    have H7 := Lib.hid h7
    clear h7
    go_wp2_with fail
    go_ret
    exact ⟨rfl, _, H7.out.less (fun _ hk => hk.elim), by simp, fun y hy => (by rw [logsOf_snoc] at hy; simpa [logIn] using hy)⟩
  · go_wp2_with fail
    refine (s_gone HP.out X (by have := HL.out.1; omega)).mono ?_
    rintro e w6 ⟨rfl, h6, _⟩
    have H6 := Lib.hid h6
    clear h6
    go_wp2_with fail
    refine (r_gone H6.out X (by have := HL.out.1; omega)).mono ?_
    rintro e w7 ⟨rfl, h7, _⟩
    have H7 := Lib.hid h7
    clear h7
    go_wp2_with fail
    go_ret
    exact ⟨rfl, _, H7.out.less (fun _ hk => hk.elim), noteL_length _ _ _, fun y hy => .inl (logs_note hy)⟩
  · have a3 : W3.cell? ⟨Q, 3, none⟩ = some (.int .i64 n) := by rw [cell_of_row _ _ _ _ _ _ HO.out.1]; rfl
    go_upto_region 23 with fail
    obtain ⟨m, hm⟩ : ∃ m, m = n.tmod 30 := ⟨_, rfl⟩
    rw [← hm]
    clear hm a3
    by_cases hb : m < 0 ∨ (L.length : Int) < m
    · have Hb := Lib.hid hb
      clear hb
      go_wp2_with fail
      refine (s_back_no HP.out m Hb.out).mono ?_
      rintro e w6 ⟨rfl, h6, _⟩
      have H6 := Lib.hid h6
      clear h6
      go_wp2_with fail
      refine (r_back_no H6.out m Hb.out).mono ?_
      rintro e w7 ⟨rfl, h7, _⟩
      have H7 := Lib.hid h7
      clear h7
      go_wp2_with fail
      go_ret
      exact ⟨rfl, _, H7.out.less (fun _ hk => hk.elim), Nat.le_succ _, fun y hy => .inl hy⟩
    · obtain ⟨q, rfl⟩ : ∃ q : Nat, m = (q : Int) := ⟨m.toNat, by omega⟩
      have Hb : Hid (q ≤ L.length) := Lib.hid (by omega)
      clear hb
      go_wp2_with fail
      refine (s_back HP.out q Hb.out (by have := HL.out.1; omega)).mono ?_
      rintro e w6 ⟨rfl, h6, _⟩
      have H6 := Lib.hid h6
      clear h6
      go_wp2_with fail
      refine (r_back H6.out q Hb.out (by have := HL.out.1; omega)).mono ?_
      rintro e w7 ⟨rfl, h7, _⟩
      have H7 := Lib.hid h7
      clear h7
      go_wp2_with fail
      go_ret
      refine ⟨rfl, _, H7.out.less (fun _ hk => hk.elim), ?_, fun y hy => .inl ?_⟩
      · rw [List.length_take]; omega
      · have hsub : (logsOf (L.take q)).Sublist (logsOf L) := (List.take_sublist q L).filterMap _
        exact hsub.subset hy
end
end Go.Proofs.Ytgjaennilkhejaa
